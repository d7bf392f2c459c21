/-
  The D machine, part r: one operation of a region, the model's machine and the D machine side by side.
-/
import Derived.Test.YtfmicbbflpkdgaaGreatDoorA04
import Derived.Defers
import Derived.Orders
set_option linter.unusedVariables false
set_option linter.unusedSimpArgs false
namespace Go.Proofs.YtfmicbbflpkdgaaGreatDoor.D
open Go.RowKit
variable {P : Program} {G : List (List DV)} {φ φ' : Phi} {ρ ρ' : Rho} {S S' : DS} {w w' : World}
variable {n0 N base : Nat} {al : List Nat} {o : Oper} {a : Act} {e : Env} {d : DV} {ps : Puts}
abbrev Dd := List DV
def DefOk (φ : Phi) (ρ : Rho) (x : Deferred) (d : DV) : Prop := ∃ f A B fa fb, d = .func f fa fb ∧ x = { target := .fn (.func f) B, args := A } ∧ RepL φ ρ A fa ∧ RepL φ ρ B fb
def DefsOk (φ : Phi) (ρ : Rho) : List Deferred → Dd → Prop
  | [], [] => True
  | x :: xs, d :: ds => DefOk φ ρ x d ∧ DefsOk φ ρ xs ds
  | _, _ => False
theorem DefsOk.mono (hφ : PhiLe φ φ') (hρ : RhoLe ρ ρ') : ∀ {xs : List Deferred} {ds : Dd}, DefsOk φ ρ xs ds → DefsOk φ' ρ' xs ds
  | [], [], _ => trivial
  | _ :: _, _ :: _, ⟨⟨f, A, B, fa, fb, h1, h2, h3, h4⟩, h5⟩ => ⟨⟨f, A, B, fa, fb, h1, h2, h3.mono hφ hρ, h4.mono hφ hρ⟩, h5.mono hφ hρ⟩
  | [], _ :: _, h => h
  | _ :: _, [], h => h
def HasBody (P : Program) (f : Nat) : Prop := ∃ fn c, P.funcs[f]? = some fn ∧ (fn.name == "runtime.NumGoroutine") = false ∧ fn.body = some c
/-- What a call comes to, told in the D machine's words. -/
def DCalls (P : Program) (G : List (List DV)) (f : Nat) (args : List DV) (S : DS) (R : DV → DS → Prop) : Prop :=
  HasBody P f ∧ ∀ φ ρ w va, SR G φ ρ S w → RepL φ ρ va args → Calls P f va w fun
    | .returned v, w' => ∃ d φ' ρ' S', R d S' ∧ Rep φ' ρ' v d ∧ SR G φ' ρ' S' w' ∧ Trans S.nx φ ρ S w φ' ρ' S' w'
    | _, _ => False
theorem DCalls.mono {f : Nat} {args : List DV} {R R' : DV → DS → Prop} (h : DCalls P G f args S R) (hr : ∀ d S', R d S' → R' d S') : DCalls P G f args S R' :=
  ⟨h.1, fun φ ρ w va hs ha => (h.2 φ ρ w va hs ha).mono fun e w' h => by
    cases e with
    | returned v => obtain ⟨d, φ', ρ', S', h1, h2⟩ := h; exact ⟨d, φ', ρ', S', hr _ _ h1, h2⟩
    | panicked c => exact h
    | outgrown => exact h⟩
def upd (e : Env) (d : Nat) (v : DV) : Env := fun i => if i = d then v else e i
/-- The machines side by side. -/
structure Sim (G : List (List DV)) (n0 N : Nat) (e : Env) (S : DS) (dd : Dd) (φ : Phi) (ρ : Rho) (a : Act) (w : World) : Prop where
  sr : SR G φ ρ S w
  er : ER φ ρ a.tmps e
  size : N ≤ a.tmps.size
  defs : DefsOk φ ρ a.defers dd
  nx : n0 ≤ S.nx
/-- One operation that is wanted. -/
def Op1 (P : Program) (G : List (List DV)) (base : Nat) (p : DOp) (e : Env) (S : DS) (dd : Dd) (K : DV → Env → DS → Dd → Prop) : Prop :=
  match p with
  | .call f xs => ∃ R, DCalls P G f (evs G e xs) S R ∧ ∀ d S', R d S' → K d e S' dd
  | .callv x xs => ∃ f fa fb R, ev G e x = .func f fa fb ∧ DCalls P G f (fa ++ (evs G e xs ++ fb)) S R ∧ ∀ d S', R d S' → K d e S' dd
  | .df x => ∃ f fa fb, ev G e x = .func f fa fb ∧ K (.tup []) e S (.func f fa fb :: dd)
  | .stf n t v => ∃ b k row, e t = .ptr b 0 0 ∧ S.h b = some (.cells k [row]) ∧ (cellsOf (ev G e v)).length = n ∧ row.length = n ∧ allSc (cellsOf (ev G e v)) = true ∧
      K (.tup []) (upd e t (.iptr (cellsOf (ev G e v)) 0)) (S.put b none) dd
  | .nxm x => ∃ b m n left cur es, ev G e x = .it b ∧ S.h b = some (.mit m n left cur) ∧ S.h m = some (.map es) ∧ es.length = n ∧ (left = [] → K (.tup [.bool false]) e S dd) ∧
      ∀ i, i ∈ left → i < es.length → K (.tup [.bool true, (es.getD i (.nilp, .nilp)).1, (es.getD i (.nilp, .nilp)).2]) e (S.put b (some (.mit m n (left.filter (fun j => j != i)) (some i)))) dd
  | p => ∃ d ps, dop G base e S.h p = some (d, ps) ∧ K d e (S.puts ps) dd
def want (e : Env) (t : Nat) (b : Bool) : Bool := match e t with | .bool c => c == b | _ => false
/-- One operation, under its guard. -/
def OpX (P : Program) (G : List (List DV)) (base : Nat) (x : DOper) (e : Env) (S : DS) (dd : Dd) (K : Env → DS → Dd → Prop) : Prop :=
  match x with
  | .o d p => Op1 P G base p e S dd fun v e' S' dd' => K (upd e' d v) S' dd'
  | .n p => Op1 P G base p e S dd fun _ e' S' dd' => K e' S' dd'
  | .g d t b p => match want e t b with
    | true => Op1 P G base p e S dd fun v e' S' dd' => K (upd e' d v) S' dd'
    | false => K (upd e d (.tup [])) S dd
  | .h t b p => match want e t b with
    | true => Op1 P G base p e S dd fun _ e' S' dd' => K e' S' dd'
    | false => K e S dd
def opX : DOper → DOp
  | .o _ p | .n p | .g _ _ _ p | .h _ _ p => p
def gdOk (ops : Array Oper) (t : Nat) (b : Bool) : Option (Nat × Bool) → Bool
  | some (j, b') => b == b' && (match ops[j]? with | some oj => (match oj.dst with | some t' => Nat.beq t t' | none => false) | none => false)
  | none => false
def operOk (P : Program) (G : List (List DV)) (N : Nat) (ops : Array Oper) (o : Oper) (x : DOper) : Bool :=
  match x with
  | .o d p => (match o.dst with | some d' => Nat.beq d d' | none => false) && Nat.blt d N && o.guard.isNone && match1 P G p o.op
  | .n p => o.dst.isNone && o.guard.isNone && match1 P G p o.op
  | .g d t b p => (match o.dst with | some d' => Nat.beq d d' | none => false) && Nat.blt d N && gdOk ops t b o.guard && match1 P G p o.op
  | .h t b p => o.dst.isNone && gdOk ops t b o.guard && match1 P G p o.op
theorem ER.put (he : ER φ ρ a.tmps e) {dst : Nat} {v : Value} {x : DV} (hv : Rep φ ρ v x) (hd : dst < a.tmps.size) : ER φ ρ (a.put (some dst) v).tmps (upd e dst x) := by
  intro i
  show Rep φ ρ ((a.tmps.setIfInBounds dst v).getD i undef) (if i = dst then x else e i)
  by_cases h : i = dst
  · subst h
    rw [if_pos rfl]
    simpa [Array.getD_eq_getD_getElem?, hd] using hv
  · rw [if_neg h]
    have := he i
    simpa [Array.getD_eq_getD_getElem?, Array.getElem?_setIfInBounds, Ne.symm h] using this
theorem put_size (a : Act) (dst : Option Nat) (v : Value) : (a.put dst v).tmps.size = a.tmps.size := by cases dst <;> simp [Act.put]
theorem put_def (a : Act) (dst : Option Nat) (v : Value) : (a.put dst v).defers = a.defers := by cases dst <;> rfl
theorem RepL.append {A B : Array Value} {x y : List DV} (h1 : RepL φ ρ A x) (h2 : RepL φ ρ B y) : RepL φ ρ (A ++ B) (x ++ y) := by
  refine ⟨by simp [h1.1, h2.1], fun i hi => ?_⟩
  by_cases h : i < x.length
  · have := h1.2 i h
    have hA : i < A.size := by rw [h1.1]; exact h
    simpa [Array.getD_eq_getD_getElem?, List.getD_eq_getElem?_getD, List.getElem?_append_left h, Array.getElem?_append_left hA] using this
  · have hi2 : i - x.length < y.length := by simp at hi; omega
    have := h2.2 _ hi2
    have hA : A.size ≤ i := by rw [h1.1]; omega
    rw [← h1.1] at this
    simpa [Array.getD_eq_getD_getElem?, List.getD_eq_getElem?_getD, List.getElem?_append_right (show x.length ≤ i by omega), Array.getElem?_append_right hA, h1.1] using this
section steps
variable {b : Frame} {k : List Item} {cs : List Frame} {ops : Array Oper} {i : Nat} {rest : List Nat}
theorem fin_at (ho : ops[i]? = some o) (v : Value) : (b.at a (.inRegion ops (i :: rest) :: k)).finish v = b.at (a.put o.dst v) (.inRegion ops rest :: k) := by
  rw [Frame.finish_at, ho]; rfl
theorem step_value (ho : ops[i]? = some o) (hw : Region.wanted o (yielded ops a.tmps) = true) {v : Value} (hr : (execOp a.eval o).run P w = .ok (.value v) w') :
    step P (lone (b.at a (.inRegion ops (i :: rest) :: k)) cs w) = .next (lone (b.at (a.put o.dst v) (.inRegion ops rest :: k)) cs w') := by
  refine step_lone_go ?_
  rw [stepG_op ho hw, ← fin_at ho]; simp [stepG.apply, hr]
theorem step_skipped (ho : ops[i]? = some o) (hw : Region.wanted o (yielded ops a.tmps) = true) (hr : (execOp a.eval o).run P w = .ok .skip w') :
    step P (lone (b.at a (.inRegion ops (i :: rest) :: k)) cs w) = .next (lone (b.at (a.put o.dst undef) (.inRegion ops rest :: k)) cs w') := by
  refine step_lone_go ?_
  rw [stepG_op ho hw, ← fin_at ho]; simp [stepG.apply, hr]
theorem step_deferred (ho : ops[i]? = some o) (hw : Region.wanted o (yielded ops a.tmps) = true) {x : Deferred} (hr : (execOp a.eval o).run P w = .ok (.defer x) w') :
    step P (lone (b.at a (.inRegion ops (i :: rest) :: k)) cs w) = .next (lone (b.at ({ a with defers := x :: a.defers }.put o.dst undef) (.inRegion ops rest :: k)) cs w') := by
  have h1 : ({ b.at a (.inRegion ops (i :: rest) :: k) with defers := x :: a.defers } : Frame).finish undef = b.at ({ a with defers := x :: a.defers }.put o.dst undef) (.inRegion ops rest :: k) := by
    have := Frame.finish_at b { a with defers := x :: a.defers } ops i rest k undef
    rw [ho] at this; exact this
  refine step_lone_go ?_
  rw [stepG_op ho hw]
  simp only [stepG.apply, Sem.runT_eq, hr, GStep.bare_after]
  exact congrArg (fun fr => GStep.go { frame := fr, callers := cs, status := .running, dying := none } w') h1
theorem steps_call (ho : ops[i]? = some o) (hw : Region.wanted o (yielded ops a.tmps) = true) {f : Nat} {args : Array Value} {R : Value → World → Prop} (hr : (execOp a.eval o).run P w = .ok (.enter f args) w')
    (hc : Calls P f args w' fun | .returned v, w' => R v w' | _, _ => False) :
    ∃ v w'', R v w'' ∧ Steps P (lone (b.at a (.inRegion ops (i :: rest) :: k)) cs w) (lone (b.at (a.put o.dst v) (.inRegion ops rest :: k)) cs w'') := by
  have hg := stepG_op (P := P) (b := b) (k := k) (cs := cs) (w := w) (rest := rest) ho hw
  obtain ⟨e, w'', fr, hR, hsteps, _, hleave⟩ := hc (b.at a (.inRegion ops (i :: rest) :: k) :: cs)
  have henter : step P (lone (b.at a (.inRegion ops (i :: rest) :: k)) cs w) = .next (lone (Frame.enter P f args .normal) (b.at a (.inRegion ops (i :: rest) :: k) :: cs) w') :=
    step_lone_go (by rw [hg]; simp [stepG.apply, hr, Frame.at])
  cases e with
  | returned v =>
    refine ⟨v, w'', hR, .head henter (Steps.trans hsteps (.one ?_))⟩
    rw [← fin_at ho]; exact step_leave_returned hleave
  | panicked c => exact hR.elim
  | outgrown => exact hR.elim
theorem step_unwanted (ho : ops[i]? = some o) (hw : Region.wanted o (yielded ops a.tmps) = false) :
    step P (lone (b.at a (.inRegion ops (i :: rest) :: k)) cs w) = .next (lone (b.at (a.put o.dst undef) (.inRegion ops rest :: k)) cs w) := by
  have := step_op_skip (P := P) (b := b) (a := a) (k := k) (cs := cs) (w := w) (ops := ops) (i := i) (rest := rest) (by simp [ho, hw])
  simpa [ho] using this
end steps
end Go.Proofs.YtfmicbbflpkdgaaGreatDoor.D
/-
  The D machine, part s: that one operation of the D machine is sound.
-/
namespace Go.Proofs.YtfmicbbflpkdgaaGreatDoor.D
open Go.RowKit
variable {P : Program} {G : List (List DV)} {φ φ' : Phi} {ρ ρ' : Rho} {S S' : DS} {w w' : World}
variable {n0 N base : Nat} {al : List Nat} {o : Oper} {a : Act} {e : Env} {d : DV} {ps : Puts} {dd : Dd}
theorem run_enter {f : Nat} (h : HasBody P f) (args : Array Value) (w : World) : (callFunc f args).run P w = .ok (.enter f args) w := by
  obtain ⟨fn, c, h1, h2, h3⟩ := h
  have h4 : fn.name ≠ "runtime.NumGoroutine" := by simpa using h2
  simp [callFunc, h1, h4, h3]
theorem Sim.step {e' : Env} {S' : DS} {dd' : Dd} {a' : Act} (h : Sim G n0 N e S dd φ ρ a w) (t : Trans n0 φ ρ S w φ' ρ' S' w') (s : SR G φ' ρ' S' w') (he : ER φ' ρ' a'.tmps e') (hsz : a'.tmps.size = a.tmps.size) (hd : DefsOk φ' ρ' a'.defers dd') : Sim G n0 N e' S' dd' φ' ρ' a' w' :=
  ⟨s, he, by rw [hsz]; exact h.size, hd, Nat.le_trans h.nx t.nx⟩
theorem op1_sound {ops : Array Oper} {i : Nat} {p : DOp} {K : DV → Env → DS → Dd → Prop} (hs : Sim G n0 N e S dd φ ρ a w) (ho : ops[i]? = some o) (hw : Region.wanted o (yielded ops a.tmps) = true) (hm : match1 P G p o.op = true) (hn0 : n0 ≤ base)
    (hfr : ∀ j, nameOf p = some j → ρ (base + j) = none ∧ base + j < S.nx) (h : Op1 P G base p e S dd K) (b : Frame) (kk : List Item) (cs : List Frame) (rest : List Nat) :
    ∃ v a1 w' d e' S' dd' φ' ρ', K d e' S' dd' ∧ Rep φ' ρ' v d ∧ a1.tmps = a.tmps ∧ Sim G n0 N e' S' dd' φ' ρ' a1 w' ∧ Trans n0 φ ρ S w φ' ρ' S' w' ∧ (∀ id, id < S.nx → (∀ j, nameOf p = some j → id ≠ base + j) → ρ' id = ρ id) ∧
      Steps P (lone (b.at a (.inRegion ops (i :: rest) :: kk)) cs w) (lone (b.at (a1.put o.dst v) (.inRegion ops rest :: kk)) cs w') := by
  have fin : ∀ {d : DV} {ps : Puts}, OpSim P G n0 base (nameOf p).toList o a φ ρ S w d ps → K d e (S.puts ps) dd → ∃ v a1 w' d e' S' dd' φ' ρ', K d e' S' dd' ∧ Rep φ' ρ' v d ∧ a1.tmps = a.tmps ∧ Sim G n0 N e' S' dd' φ' ρ' a1 w' ∧ Trans n0 φ ρ S w φ' ρ' S' w' ∧ (∀ id, id < S.nx → (∀ j, nameOf p = some j → id ≠ base + j) → ρ' id = ρ id) ∧
      Steps P (lone (b.at a (.inRegion ops (i :: rest) :: kk)) cs w) (lone (b.at (a1.put o.dst v) (.inRegion ops rest :: kk)) cs w') := by
    intro d ps hsim hk
    obtain ⟨v, w', φ', ρ', hrun, hv, s1, t1, hkeep⟩ := hsim
    refine ⟨v, a, w', d, e, _, dd, φ', ρ', hk, hv, rfl, hs.step t1 s1 (hs.er.mono t1.phi t1.rho) rfl (hs.defs.mono t1.phi t1.rho), t1, fun id h1 h2 => hkeep id h1 (fun j hj => h2 j (by simpa using hj)), ?_⟩
    rcases hrun with hrun | ⟨hrun, rfl⟩
    · exact .one (step_value ho hw hrun)
    · exact .one (step_skipped ho hw hrun)
  have finC : ∀ {f : Nat} {args : List DV} {va : Array Value} {R : DV → DS → Prop}, (execOp a.eval o).run P w = .ok (.enter f va) w → DCalls P G f args S R → RepL φ ρ va args → (∀ d S', R d S' → K d e S' dd) →
      ∃ v a1 w' d e' S' dd' φ' ρ', K d e' S' dd' ∧ Rep φ' ρ' v d ∧ a1.tmps = a.tmps ∧ Sim G n0 N e' S' dd' φ' ρ' a1 w' ∧ Trans n0 φ ρ S w φ' ρ' S' w' ∧ (∀ id, id < S.nx → (∀ j, nameOf p = some j → id ≠ base + j) → ρ' id = ρ id) ∧
      Steps P (lone (b.at a (.inRegion ops (i :: rest) :: kk)) cs w) (lone (b.at (a1.put o.dst v) (.inRegion ops rest :: kk)) cs w') := by
    intro f args va R hrun hcall hargs hk
    obtain ⟨v, w', hR, hsteps⟩ := steps_call (b := b) (k := kk) (cs := cs) (rest := rest) (R := fun v w' => ∃ d φ' ρ' S', R d S' ∧ Rep φ' ρ' v d ∧ SR G φ' ρ' S' w' ∧ Trans S.nx φ ρ S w φ' ρ' S' w') ho hw hrun ((hcall.2 φ ρ w va hs.sr hargs).mono fun e w' h => by cases e <;> exact h)
    obtain ⟨d, φ', ρ', S', h1, h2, h3, h4⟩ := hR
    have t1 := h4.weaken hs.nx
    exact ⟨v, a, w', d, e, S', dd, φ', ρ', hk _ _ h1, h2, rfl, hs.step t1 h3 (hs.er.mono t1.phi t1.rho) rfl (hs.defs.mono t1.phi t1.rho), t1, fun id h1 _ => h4.keep id h1, hsteps⟩
  by_cases hp : plain p = true
  · have h' : ∃ d ps, dop G base e S.h p = some (d, ps) ∧ K d e (S.puts ps) dd := by cases p <;> first | exact h | (cases hp)
    obtain ⟨d, ps, hd, hk⟩ := h'
    exact fin (sim_all hp hs.sr hs.er hm hn0 hfr hd) hk
  · cases p <;> first | (exact absurd rfl hp) | skip
    case bad =>
      obtain ⟨d, ps, h1, _⟩ := h
      simp [dop] at h1
    case call f xs =>
      obtain ⟨R, hcall, hk⟩ := h
      simp only [match1] at hm
      unfold mCall at hm
      split at hm
      · rename_i g args ts hop
        simp only [Bool.and_eq_true, beqN, decide_eq_true_eq] at hm
        obtain ⟨rfl, hargs⟩ := hm
        have hr := opOkL_rep hs.sr hs.er hargs
        refine finC (va := args.map a.eval) ?_ hcall (by simpa using hr) hk
        have hev : a.eval (.func f) = .func (.func f) #[] #[] := rfl
        simp [execOp, hop, resolve, Deferred.ofValue, hev, invoke, run_enter hcall.1]
      · cases hm
    case callv x xs =>
      obtain ⟨f, fa, fb, R, hx, hcall, hk⟩ := h
      simp only [match1] at hm
      unfold mCallv at hm
      split at hm
      · rename_i y args ts hop
        simp only [Bool.and_eq_true] at hm
        obtain ⟨hy, hargs⟩ := hm
        have hr := opOkL_rep hs.sr hs.er hargs
        have ry := opOk_rep hs.sr hs.er hy
        rw [hx] at ry
        generalize hyv : a.eval y = yv at ry
        cases ry with
        | func f A B fa fb hA hB h1 h2 =>
          refine finC (va := A ++ (args.map a.eval ++ B)) ?_ hcall (RepL.append ⟨hA, h1⟩ (RepL.append (by simpa using hr) ⟨hB, h2⟩)) hk
          simp [execOp, hop, resolve, Deferred.ofValue, hyv, invoke, run_enter hcall.1, Array.append_assoc]
      · cases hm
    case df x =>
      obtain ⟨f, fa, fb, hx, hk⟩ := h
      simp only [match1] at hm
      unfold mDf at hm
      split at hm
      · rename_i y args ts hop
        simp only [Bool.and_eq_true, Array.isEmpty_iff] at hm
        obtain ⟨hy, rfl⟩ := hm
        have ry := opOk_rep hs.sr hs.er hy
        rw [hx] at ry
        generalize hyv : a.eval y = yv at ry
        cases ry with
        | func f A B fa fb hA hB h1 h2 =>
          have hrun : (execOp a.eval o).run P w = .ok (.defer { target := .fn (.func f) B, args := A }) w := by
            simp [execOp, hop, resolve, Deferred.ofValue, hyv]
          refine ⟨undef, { a with defers := { target := .fn (.func f) B, args := A } :: a.defers }, w, _, e, S, _, φ, ρ, hk, .tup #[] [] rfl (by simp), rfl, ?_, Trans.refl .., fun _ _ _ => rfl, .one (step_deferred ho hw hrun)⟩
          exact ⟨hs.sr, hs.er, hs.size, ⟨⟨f, A, B, fa, fb, rfl, rfl, ⟨hA, h1⟩, ⟨hB, h2⟩⟩, hs.defs⟩, hs.nx⟩
      · cases hm
    case stf n t v =>
      obtain ⟨b1, k, row, h1, h2, h3, h4, h5, hk⟩ := h
      obtain ⟨w', φ', hrun, s1, t1, hrep⟩ := step_stf (n0 := n0) hs.sr hs.er hm h1 h2 h3 h4 h5
      refine ⟨undef, a, w', _, _, _, dd, φ', ρ, hk, .tup #[] [] rfl (by simp), rfl, ?_, t1, fun _ _ _ => rfl, .one (step_skipped ho hw hrun)⟩
      refine hs.step t1 s1 (fun j => ?_) rfl (hs.defs.mono t1.phi t1.rho)
      show Rep φ' ρ _ (if j = t then _ else e j)
      by_cases hj : j = t
      · subst hj; rw [if_pos rfl]; exact hrep
      · rw [if_neg hj]; exact (hs.er j).mono t1.phi t1.rho
    case nxm x =>
      obtain ⟨b1, m, n, left, cur, es, h1, h2, h3, h4, h5, h6⟩ := h
      rcases step_nxm (n0 := n0) (base := base) (al := []) hs.sr hs.er hm h1 h2 h3 h4 with ⟨hl, hsim⟩ | ⟨j, hj, hjl, hsim⟩
      · exact fin hsim (h5 hl)
      · exact fin hsim (h6 j hj hjl)
theorem want_ok {ops : Array Oper} {t : Nat} {b : Bool} (he : ER φ ρ a.tmps e) (hg : gdOk ops t b o.guard = true) : Region.wanted o (yielded ops a.tmps) = want e t b := by
  unfold gdOk at hg
  split at hg
  · rename_i j b' hgd
    simp only [Bool.and_eq_true, beq_iff_eq] at hg
    obtain ⟨rfl, hg⟩ := hg
    split at hg
    · rename_i oj hoj
      split at hg
      · rename_i t' ht'
        rw [beqN, decide_eq_true_eq] at hg
        subst hg
        have hr := he t
        simp only [Region.wanted, hgd, yielded, hoj, Option.bind_some, ht', want]
        rw [Array.getD_eq_getD_getElem?] at hr
        cases hv : a.tmps[t]? with
        | none =>
          rw [hv] at hr
          simp only [Option.getD_none] at hr
          generalize e t = dt at hr
          cases hr <;> rfl
        | some v =>
          rw [hv] at hr
          simp only [Option.getD_some] at hr
          generalize e t = dt at hr
          cases hr <;> rfl
      · cases hg
    · cases hg
  · cases hg
theorem opX_sound {ops : Array Oper} {i : Nat} {x : DOper} {K : Env → DS → Dd → Prop} (hs : Sim G n0 N e S dd φ ρ a w) (ho : ops[i]? = some o) (hm : operOk P G N ops o x = true) (hn0 : n0 ≤ base)
    (hfr : ∀ j, nameOf (opX x) = some j → ρ (base + j) = none ∧ base + j < S.nx) (h : OpX P G base x e S dd K) (b : Frame) (kk : List Item) (cs : List Frame) (rest : List Nat) :
    ∃ a' w' e' S' dd' φ' ρ', K e' S' dd' ∧ Sim G n0 N e' S' dd' φ' ρ' a' w' ∧ Trans n0 φ ρ S w φ' ρ' S' w' ∧ (∀ id, id < S.nx → (∀ j, nameOf (opX x) = some j → id ≠ base + j) → ρ' id = ρ id) ∧
      Steps P (lone (b.at a (.inRegion ops (i :: rest) :: kk)) cs w) (lone (b.at a' (.inRegion ops rest :: kk)) cs w') := by
  have withDst : ∀ {dst : Nat} {p : DOp}, o.dst = some dst → dst < N → Region.wanted o (yielded ops a.tmps) = true → match1 P G p o.op = true → (∀ j, nameOf p = some j → ρ (base + j) = none ∧ base + j < S.nx) → Op1 P G base p e S dd (fun v e' S' dd' => K (upd e' dst v) S' dd') →
      ∃ a' w' e' S' dd' φ' ρ', K e' S' dd' ∧ Sim G n0 N e' S' dd' φ' ρ' a' w' ∧ Trans n0 φ ρ S w φ' ρ' S' w' ∧ (∀ id, id < S.nx → (∀ j, nameOf p = some j → id ≠ base + j) → ρ' id = ρ id) ∧
      Steps P (lone (b.at a (.inRegion ops (i :: rest) :: kk)) cs w) (lone (b.at a' (.inRegion ops rest :: kk)) cs w') := by
    intro dst p hdst hdN hw hm hfr h
    obtain ⟨v, a1, w', d, e', S', dd', φ', ρ', hk, hv, ha1, hsim, t1, hkeep, hst⟩ := op1_sound hs ho hw hm hn0 hfr h b kk cs rest
    rw [hdst] at hst
    refine ⟨_, w', _, S', dd', φ', ρ', hk, ?_, t1, hkeep, hst⟩
    have hsz := hsim.size
    exact ⟨hsim.sr, ER.put hsim.er hv (by omega), by rw [put_size]; exact hsz, by rw [put_def]; exact hsim.defs, hsim.nx⟩
  have noDst : ∀ {p : DOp}, o.dst = none → Region.wanted o (yielded ops a.tmps) = true → match1 P G p o.op = true → (∀ j, nameOf p = some j → ρ (base + j) = none ∧ base + j < S.nx) → Op1 P G base p e S dd (fun _ e' S' dd' => K e' S' dd') →
      ∃ a' w' e' S' dd' φ' ρ', K e' S' dd' ∧ Sim G n0 N e' S' dd' φ' ρ' a' w' ∧ Trans n0 φ ρ S w φ' ρ' S' w' ∧ (∀ id, id < S.nx → (∀ j, nameOf p = some j → id ≠ base + j) → ρ' id = ρ id) ∧
      Steps P (lone (b.at a (.inRegion ops (i :: rest) :: kk)) cs w) (lone (b.at a' (.inRegion ops rest :: kk)) cs w') := by
    intro p hdst hw hm hfr h
    obtain ⟨v, a1, w', d, e', S', dd', φ', ρ', hk, hv, ha1, hsim, t1, hkeep, hst⟩ := op1_sound hs ho hw hm hn0 hfr h b kk cs rest
    rw [hdst] at hst
    exact ⟨a1, w', _, S', dd', φ', ρ', hk, hsim, t1, hkeep, hst⟩
  cases x with
  | o dst p =>
    simp only [operOk, Bool.and_eq_true, bltN, decide_eq_true_eq, Option.isNone_iff_eq_none] at hm
    obtain ⟨⟨⟨h1, h2⟩, h3⟩, h4⟩ := hm
    split at h1
    · rename_i d' hd'
      rw [beqN, decide_eq_true_eq] at h1
      subst h1
      exact withDst hd' h2 (by simp [Region.wanted, h3]) h4 hfr h
    · cases h1
  | n p =>
    simp only [operOk, Bool.and_eq_true, Option.isNone_iff_eq_none] at hm
    obtain ⟨⟨h1, h3⟩, h4⟩ := hm
    exact noDst h1 (by simp [Region.wanted, h3]) h4 hfr h
  | g dst t c p =>
    simp only [operOk, Bool.and_eq_true, bltN, decide_eq_true_eq] at hm
    obtain ⟨⟨⟨h1, h2⟩, h3⟩, h4⟩ := hm
    have hwant := want_ok hs.er h3
    split at h1
    · rename_i d' hd'
      rw [beqN, decide_eq_true_eq] at h1
      subst h1
      simp only [OpX] at h
      split at h
      · rename_i hw
        exact withDst hd' h2 (by rw [hwant, hw]) h4 hfr h
      · rename_i hw
        have hst := step_unwanted (P := P) (b := b) (k := kk) (cs := cs) (w := w) (rest := rest) ho (by rw [hwant, hw])
        rw [hd'] at hst
        refine ⟨_, w, _, S, dd, φ, ρ, h, ?_, Trans.refl .., fun _ _ _ => rfl, .one hst⟩
        have hsz := hs.size
        exact ⟨hs.sr, ER.put hs.er (.tup #[] [] rfl (by simp)) (by omega), by rw [put_size]; exact hsz, by rw [put_def]; exact hs.defs, hs.nx⟩
    · cases h1
  | h t c p =>
    simp only [operOk, Bool.and_eq_true, Option.isNone_iff_eq_none] at hm
    obtain ⟨⟨h1, h3⟩, h4⟩ := hm
    have hwant := want_ok hs.er h3
    simp only [OpX] at h
    split at h
    · rename_i hw
      exact noDst h1 (by rw [hwant, hw]) h4 hfr h
    · rename_i hw
      have hst := step_unwanted (P := P) (b := b) (k := kk) (cs := cs) (w := w) (rest := rest) ho (by rw [hwant, hw])
      rw [h1] at hst
      exact ⟨a, w, _, S, dd, φ, ρ, h, hs, Trans.refl .., fun _ _ _ => rfl, .one hst⟩
end Go.Proofs.YtfmicbbflpkdgaaGreatDoor.D
/-
  The D machine, part t: lists of things to do, regions whose order is fixed, functions.
-/
namespace Go.Proofs.YtfmicbbflpkdgaaGreatDoor.D
open Go.RowKit
variable {P : Program} {G : List (List DV)} {φ φ' : Phi} {ρ ρ' : Rho} {S S' : DS} {w w' : World}
variable {n0 N base : Nat} {al : List Nat} {o : Oper} {a : Act} {e : Env} {d : DV} {ps : Puts} {dd : Dd}
/-! ### Checks of code -/
def namesX : List DOper → List Nat
  | [] => []
  | x :: xs => match nameOf (opX x) with | some j => j :: namesX xs | none => namesX xs
def memN (x : Nat) : List Nat → Bool
  | [] => false
  | y :: l => match Nat.beq x y with | true => true | false => memN x l
def nodupN : List Nat → Bool
  | [] => true
  | x :: l => match memN x l with | true => false | false => nodupN l
def namesOk (na : Nat) (xs : List DOper) : Bool := HasL (fun j => Nat.blt j na) (namesX xs) && nodupN (namesX xs)
def chkOps (P : Program) (G : List (List DV)) (N : Nat) (ops : Array Oper) : List Nat → List DOper → Bool
  | [], [] => true
  | i :: l, x :: xs => (match ops[i]? with | some o => operOk P G N ops o x | none => false) && chkOps P G N ops l xs
  | _, _ => false
theorem memN_iff (x : Nat) : ∀ (l : List Nat), memN x l = true ↔ x ∈ l
  | [] => by simp [memN]
  | y :: l => by
    simp only [memN, beqN]
    by_cases h : x = y
    · subst h; simp
    · simp [h, memN_iff x l]
theorem nodupN_iff : ∀ (l : List Nat), nodupN l = true ↔ l.Nodup
  | [] => by simp [nodupN]
  | x :: l => by
    simp only [nodupN, List.nodup_cons]
    cases h : memN x l with
    | true => simp [(memN_iff x l).1 h]
    | false =>
      have : x ∉ l := fun hx => by rw [(memN_iff x l).2 hx] at h; cases h
      simp [this, nodupN_iff l]
theorem HasL_iff {α : Type} (p : α → Bool) : ∀ (l : List α), HasL p l = true ↔ ∀ x, x ∈ l → p x = true
  | [] => by simp [HasL]
  | x :: l => by
    simp only [HasL]
    cases h : p x with
    | true => simp [h, HasL_iff p l]
    | false => simp [h]
/-! ### Things to do -/
/-- A region that draws its order is told apart (part u). -/
def chkC (P : Program) (G : List (List DV)) (rd : Array Oper → Nat → List RdI → Bool) (N : Nat) : Code → DC → Bool
  | .skip, .sk => true
  | .region _ ops false, .rg na xs => chkOps P G N ops (List.range ops.size) xs && namesOk na xs
  | .region _ ops true, .rd na l => rd ops na l
  | .seq a b, .sq c d => chkC P G rd N a c && chkC P G rd N b d
  | .cond x a b, .cd y c d => opOk G x y && chkC P G rd N a c && chkC P G rd N b d
  | .block i a, .bk j c => Nat.beq i j && chkC P G rd N a c
  | .loop a, .lp c => chkC P G rd N a c
  | .exit i, .ex j => Nat.beq i j
  | .ret, .rt => true
  | _, _ => false
abbrev RdChk := Array Oper → Nat → List RdI → Bool
variable {rd : RdChk}
inductive ItemOk (P : Program) (G : List (List DV)) (rd : RdChk) (N : Nat) : Item → It → Prop
  | code (c : Code) (dc : DC) (h : chkC P G rd N c dc = true) : ItemOk P G rd N (.code c) (.c dc)
  | ib (id : Nat) : ItemOk P G rd N (.inBlock id) (.ib id)
  | il (c : Code) (dc : DC) (h : chkC P G rd N c dc = true) : ItemOk P G rd N (.inLoop c) (.il dc)
inductive ItemsOk (P : Program) (G : List (List DV)) (rd : RdChk) (N : Nat) : List Item → List It → Prop
  | nil : ItemsOk P G rd N [] []
  | cons {x : Item} {y : It} {kk : List Item} {k : List It} (h : ItemOk P G rd N x y) (t : ItemsOk P G rd N kk k) : ItemsOk P G rd N (x :: kk) (y :: k)
inductive TopOk (P : Program) (G : List (List DV)) (rd : RdChk) (N : Nat) : List Item → List It → Prop
  | items {kk : List Item} {k : List It} (h : ItemsOk P G rd N kk k) : TopOk P G rd N kk k
  | op {ops : Array Oper} {l : List Nat} {base : Nat} {xs : List DOper} {kk : List Item} {k : List It} (h : chkOps P G N ops l xs = true) (t : ItemsOk P G rd N kk k) : TopOk P G rd N (.inRegion ops l :: kk) (.op base xs :: k)
def Fresh (n0 : Nat) (ρ : Rho) (S : DS) : List It → Prop
  | .op base xs :: _ => n0 ≤ base ∧ (∀ j, j ∈ namesX xs → ρ (base + j) = none ∧ base + j < S.nx) ∧ (namesX xs).Nodup
  | _ => True
/-- From here on the function runs to its end, and Q is true there. -/
def Good (P : Program) (G : List (List DV)) (rd : RdChk) (N : Nat) (its : List It) (Q : Env → DS → Dd → Prop) (e : Env) (S : DS) (dd : Dd) : Prop :=
  ∀ n0 φ ρ a w kk, TopOk P G rd N kk its → Sim G n0 N e S dd φ ρ a w → Fresh n0 ρ S its → ∀ (b : Frame) (cs : List Frame), ∃ a' w' todo e' S' dd' φ' ρ', Q e' S' dd' ∧ Sim G n0 N e' S' dd' φ' ρ' a' w' ∧ Trans n0 φ ρ S w φ' ρ' S' w' ∧
    Steps P (lone (b.at a kk) cs w) (lone { b.at a' todo with mode := .returning } cs w')
variable {k its its' : List It} {Q : Env → DS → Dd → Prop}
theorem Good.mono {Q' : Env → DS → Dd → Prop} (h : Good P G rd N its Q e S dd) (hq : ∀ e S dd, Q e S dd → Q' e S dd) : Good P G rd N its Q' e S dd := by
  intro n0 φ ρ a w kk ht hs hf b cs
  obtain ⟨a', w', todo, e', S', dd', φ', ρ', h1, h2⟩ := h n0 φ ρ a w kk ht hs hf b cs
  exact ⟨a', w', todo, e', S', dd', φ', ρ', hq _ _ _ h1, h2⟩
theorem Good.nil (h : Q e S dd) : Good P G rd N [] Q e S dd := by
  intro n0 φ ρ a w kk ht hs _ b cs
  cases ht with
  | items h' => cases h' with
    | nil => exact ⟨a, w, [], e, S, dd, φ, ρ, h, hs, Trans.refl .., .one step_end⟩
theorem fresh_items {kk : List Item} (h : ItemsOk P G rd N kk k) (n0 : Nat) (ρ : Rho) (S : DS) : Fresh n0 ρ S k := by
  cases h with
  | nil => trivial
  | cons h1 _ => cases h1 <;> trivial
/-- A step that changes what there is to do, and nothing else. -/
theorem Good.via (hn : ∀ base xs k, its ≠ .op base xs :: k) (h : Good P G rd N its' Q e S dd)
    (hst : ∀ kk, ItemsOk P G rd N kk its → ∃ kk', ItemsOk P G rd N kk' its' ∧ ∀ (b : Frame) (a : Act) (cs : List Frame) (w : World) (φ : Phi) (ρ : Rho), SR G φ ρ S w → ER φ ρ a.tmps e → Steps P (lone (b.at a kk) cs w) (lone (b.at a kk') cs w)) : Good P G rd N its Q e S dd := by
  intro n0 φ ρ a w kk ht hs _ b cs
  cases ht with
  | op h' t => exact absurd rfl (hn _ _ _)
  | items h' =>
    obtain ⟨kk', h1, h2⟩ := hst kk h'
    obtain ⟨a', w', todo, e', S', dd', φ', ρ', g1, g2, g3, g4⟩ := h n0 φ ρ a w kk' (.items h1) hs (fresh_items h1 n0 ρ S) b cs
    exact ⟨a', w', todo, e', S', dd', φ', ρ', g1, g2, g3, Steps.trans (h2 b a cs w φ ρ hs.sr hs.er) g4⟩
theorem exitOk {id : Nat} : ∀ {kk : List Item} {k k' : List It}, ItemsOk P G rd N kk k → exitIt id k = some k' → ∃ kk', exitTo id kk = some kk' ∧ ItemsOk P G rd N kk' k'
  | _, _, _, .nil, h => by simp [exitIt] at h
  | _, _, k', .cons (x := x) (y := y) (kk := kk) (k := k) h t, he => by
    cases h with
    | code c dc _ =>
      obtain ⟨kk', h1, h2⟩ := exitOk t (by simpa [exitIt] using he)
      exact ⟨kk', by simpa [exitTo] using h1, h2⟩
    | il c dc _ =>
      obtain ⟨kk', h1, h2⟩ := exitOk t (by simpa [exitIt] using he)
      exact ⟨kk', by simpa [exitTo] using h1, h2⟩
    | ib i =>
      simp only [exitIt, beqN] at he
      split at he
      · rename_i hi
        rw [decide_eq_true_eq] at hi
        subst hi
        cases he
        exact ⟨kk, by simp [exitTo], t⟩
      · rename_i hi
        have hi : ¬ i = id := by simpa using hi
        obtain ⟨kk', h1, h2⟩ := exitOk t he
        refine ⟨kk', ?_, h2⟩
        have : (i == id) = false := by simpa using hi
        simp only [exitTo, this, Bool.false_eq_true, if_false]
        exact h1
theorem chk_sk {c : Code} (h : chkC P G rd N c .sk = true) : c = .skip := by
  cases c <;> simp only [chkC] at h <;> first | rfl | (cases h; done)
theorem Good.sk (h : Good P G rd N k Q e S dd) : Good P G rd N (.c .sk :: k) Q e S dd := by
  refine Good.via (by simp) h (fun kk h' => ?_)
  cases h' with
  | cons h1 t => cases h1 with
    | code c dc hc =>
      cases chk_sk hc
      exact ⟨_, t, fun b a cs w _ _ _ _ => .one step_skip⟩
theorem Good.ib {id : Nat} (h : Good P G rd N k Q e S dd) : Good P G rd N (.ib id :: k) Q e S dd := by
  refine Good.via (by simp) h (fun kk h' => ?_)
  cases h' with
  | cons h1 t => cases h1 with
    | ib i => exact ⟨_, t, fun b a cs w _ _ _ _ => .one step_inBlock⟩
theorem Good.il {c : DC} (h : Good P G rd N (.c c :: .il c :: k) Q e S dd) : Good P G rd N (.il c :: k) Q e S dd := by
  refine Good.via (by simp) h (fun kk h' => ?_)
  cases h' with
  | cons h1 t => cases h1 with
    | il c' dc hc => exact ⟨_, .cons (.code c' _ hc) (.cons (.il c' _ hc) t), fun b a cs w _ _ _ _ => .one step_inLoop⟩
theorem chk_sq {c : Code} {x y : DC} (h : chkC P G rd N c (.sq x y) = true) : ∃ a b, c = .seq a b ∧ chkC P G rd N a x = true ∧ chkC P G rd N b y = true := by
  cases c <;> simp only [chkC, Bool.and_eq_true] at h <;> first | exact ⟨_, _, rfl, h.1, h.2⟩ | (cases h; done)
theorem Good.sq {x y : DC} (h : Good P G rd N (.c x :: .c y :: k) Q e S dd) : Good P G rd N (.c (.sq x y) :: k) Q e S dd := by
  refine Good.via (by simp) h (fun kk h' => ?_)
  cases h' with
  | cons h1 t => cases h1 with
    | code c dc hc =>
      obtain ⟨a1, b1, rfl, h2, h3⟩ := chk_sq hc
      exact ⟨_, .cons (.code _ _ h2) (.cons (.code _ _ h3) t), fun b a cs w _ _ _ _ => .one step_seq⟩
theorem chk_cd {c : Code} {z : Opd} {x y : DC} (h : chkC P G rd N c (.cd z x y) = true) : ∃ o a b, c = .cond o a b ∧ opOk G o z = true ∧ chkC P G rd N a x = true ∧ chkC P G rd N b y = true := by
  cases c <;> simp only [chkC, Bool.and_eq_true] at h <;> first | exact ⟨_, _, _, rfl, h.1.1, h.1.2, h.2⟩ | (cases h; done)
theorem Good.cd {z : Opd} {x y : DC} {t : Bool} (hz : ev G e z = .bool t) (h : Good P G rd N (.c (match t with | true => x | false => y) :: k) Q e S dd) : Good P G rd N (.c (.cd z x y) :: k) Q e S dd := by
  refine Good.via (by simp) h (fun kk h' => ?_)
  cases h' with
  | cons h1 tl => cases h1 with
    | code c dc hc =>
      obtain ⟨o, a1, b1, rfl, h1, h2, h3⟩ := chk_cd hc
      refine ⟨.code (if t then a1 else b1) :: _, .cons (.code _ _ ?_) tl, fun b a cs w φ ρ hs he => .one (step_cond ?_)⟩
      · cases t
        · exact h3
        · exact h2
      · have := opOk_rep hs he h1
        rw [hz] at this
        exact rep_bool this
theorem chk_bk {c : Code} {id : Nat} {x : DC} (h : chkC P G rd N c (.bk id x) = true) : ∃ a, c = .block id a ∧ chkC P G rd N a x = true := by
  cases c <;> simp only [chkC, Bool.and_eq_true, beqN, decide_eq_true_eq] at h <;> first | (obtain ⟨rfl, h⟩ := h; exact ⟨_, rfl, h⟩) | (cases h; done)
theorem Good.bk {id : Nat} {x : DC} (h : Good P G rd N (.c x :: .ib id :: k) Q e S dd) : Good P G rd N (.c (.bk id x) :: k) Q e S dd := by
  refine Good.via (by simp) h (fun kk h' => ?_)
  cases h' with
  | cons h1 t => cases h1 with
    | code c dc hc =>
      obtain ⟨a1, rfl, h2⟩ := chk_bk hc
      exact ⟨_, .cons (.code _ _ h2) (.cons (.ib _) t), fun b a cs w _ _ _ _ => .one step_block⟩
theorem chk_lp {c : Code} {x : DC} (h : chkC P G rd N c (.lp x) = true) : ∃ a, c = .loop a ∧ chkC P G rd N a x = true := by
  cases c <;> simp only [chkC] at h <;> first | exact ⟨_, rfl, h⟩ | (cases h; done)
theorem Good.lp {x : DC} (h : Good P G rd N (.c x :: .il x :: k) Q e S dd) : Good P G rd N (.c (.lp x) :: k) Q e S dd := by
  refine Good.via (by simp) h (fun kk h' => ?_)
  cases h' with
  | cons h1 t => cases h1 with
    | code c dc hc =>
      obtain ⟨a1, rfl, h2⟩ := chk_lp hc
      exact ⟨_, .cons (.code _ _ h2) (.cons (.il _ _ h2) t), fun b a cs w _ _ _ _ => .one step_loop⟩
theorem chk_ex {c : Code} {id : Nat} (h : chkC P G rd N c (.ex id) = true) : c = .exit id := by
  cases c <;> simp only [chkC, beqN, decide_eq_true_eq] at h <;> first | (subst h; rfl) | (cases h; done)
theorem Good.ex {id : Nat} {k' : List It} (hx : exitIt id k = some k') (h : Good P G rd N k' Q e S dd) : Good P G rd N (.c (.ex id) :: k) Q e S dd := by
  refine Good.via (by simp) h (fun kk h' => ?_)
  cases h' with
  | cons h1 t => cases h1 with
    | code c dc hc =>
      cases chk_ex hc
      obtain ⟨kk', h2, h3⟩ := exitOk t hx
      exact ⟨kk', h3, fun b a cs w _ _ _ _ => .one (step_exit h2)⟩
theorem Good.rt (h : Q e S dd) : Good P G rd N (.c .rt :: k) Q e S dd := by
  intro n0 φ ρ a w kk ht hs _ b cs
  cases ht with
  | items h' => cases h' with
    | cons h1 t => cases h1 with
      | code c dc hc =>
        cases c <;> simp only [chkC] at hc <;> first | (cases hc; done) | skip
        exact ⟨a, w, _, e, S, dd, φ, ρ, h, hs, Trans.refl .., .one step_ret⟩
theorem Good.opnil (h : Good P G rd N k Q e S dd) : Good P G rd N (.op base [] :: k) Q e S dd := by
  intro n0 φ ρ a w kk ht hs _ b cs
  cases ht with
  | items h' => cases h' with
    | cons h1 t => cases h1
  | op hops t =>
    rename_i ops l kk
    cases l with
    | cons => simp [chkOps] at hops
    | nil =>
      obtain ⟨a', w', todo, e', S', dd', φ', ρ', g1, g2, g3, g4⟩ := h n0 φ ρ a w kk (.items t) hs (fresh_items t n0 ρ S) b cs
      exact ⟨a', w', todo, e', S', dd', φ', ρ', g1, g2, g3, .head step_region_end g4⟩
theorem namesX_cons (x : DOper) (xs : List DOper) : namesX (x :: xs) = (nameOf (opX x)).toList ++ namesX xs := by
  simp only [namesX]
  cases nameOf (opX x) <;> rfl
theorem Good.op {x : DOper} {xs : List DOper} (h : OpX P G base x e S dd fun e' S' dd' => Good P G rd N (.op base xs :: k) Q e' S' dd') : Good P G rd N (.op base (x :: xs) :: k) Q e S dd := by
  intro n0 φ ρ a w kk ht hs hf b cs
  cases ht with
  | items h' => cases h' with
    | cons h1 t => cases h1
  | op hops t =>
    rename_i ops l kk
    cases l with
    | nil => simp [chkOps] at hops
    | cons i l =>
      simp only [chkOps, Bool.and_eq_true] at hops
      obtain ⟨ho, hops⟩ := hops
      split at ho
      · rename_i o hoi
        obtain ⟨hn0, hfr, hnd⟩ := hf
        rw [namesX_cons] at hfr hnd
        obtain ⟨a1, w1, e1, S1, dd1, φ1, ρ1, k1, k2, k3, k4, k5⟩ := opX_sound hs hoi ho hn0 (fun j hj => hfr j (by simp [hj])) h b kk cs l
        have hfr1 : Fresh n0 ρ1 S1 (.op base xs :: k) := by
          refine ⟨hn0, fun j hj => ?_, (List.nodup_append.1 hnd).2.1⟩
          obtain ⟨h1, h2⟩ := hfr j (by simp [hj])
          refine ⟨?_, Nat.lt_of_lt_of_le h2 k3.nx⟩
          rw [k4 (base + j) h2 (fun j' hj' heq => ?_)]
          · exact h1
          · have : j' = j := by omega
            subst this
            exact (List.nodup_append.1 hnd).2.2 j' (by simp [hj']) j' hj rfl
        obtain ⟨a', w', todo, e', S', dd', φ', ρ', g1, g2, g3, g4⟩ := k1 n0 φ1 ρ1 a1 w1 _ (.op hops t) k2 hfr1 b cs
        exact ⟨a', w', todo, e', S', dd', φ', ρ', g1, g2, k3.trans g3, Steps.trans k5 g4⟩
      · cases ho
theorem chk_rg {c : Code} {na : Nat} {xs : List DOper} (h : chkC P G rd N c (.rg na xs) = true) : ∃ id ops, c = .region id ops false ∧ chkOps P G N ops (List.range ops.size) xs = true ∧ namesOk na xs = true := by
  cases c
  case region id ops d =>
    cases d <;> simp only [chkC, Bool.and_eq_true] at h <;> first | exact ⟨_, _, rfl, h.1, h.2⟩ | (cases h; done)
  all_goals (simp only [chkC] at h; cases h; done)
theorem namesOk_spec {na : Nat} {xs : List DOper} (h : namesOk na xs = true) : (∀ j, j ∈ namesX xs → j < na) ∧ (namesX xs).Nodup := by
  simp only [namesOk, Bool.and_eq_true, HasL_iff, bltN, decide_eq_true_eq] at h
  exact ⟨h.1, (nodupN_iff _).1 h.2⟩
theorem Good.rg {na : Nat} {xs : List DOper} (h : Good P G rd N (.op S.nx xs :: k) Q e ⟨S.h, S.nx + na⟩ dd) : Good P G rd N (.c (.rg na xs) :: k) Q e S dd := by
  intro n0 φ ρ a w kk ht hs _ b cs
  cases ht with
  | items h' => cases h' with
    | cons h1 t => cases h1 with
      | code c dc hc =>
        obtain ⟨id, ops, rfl, h2, h3⟩ := chk_rg hc
        obtain ⟨h4, h5⟩ := namesOk_spec h3
        have hfr : Fresh n0 ρ ⟨S.h, S.nx + na⟩ (.op S.nx xs :: k) := by
          refine ⟨hs.nx, fun j hj => ⟨?_, ?_⟩, h5⟩
          · cases hr : ρ (S.nx + j) with
            | none => rfl
            | some p => have := (hs.sr.dom _ _ hr).1; omega
          · have := h4 j hj
            show S.nx + j < S.nx + na
            omega
        have hs2 : Sim G n0 N e ⟨S.h, S.nx + na⟩ dd φ ρ a w := ⟨hs.sr.bump na, hs.er, hs.size, hs.defs, Nat.le_trans hs.nx (Nat.le_add_right ..)⟩
        obtain ⟨a', w', todo, e', S', dd', φ', ρ', g1, g2, g3, g4⟩ := h n0 φ ρ a w _ (.op h2 t) hs2 hfr b cs
        exact ⟨a', w', todo, e', S', dd', φ', ρ', g1, g2, (Trans.bump n0 na).trans g3, .head step_region g4⟩
end Go.Proofs.YtfmicbbflpkdgaaGreatDoor.D
/-
  The D machine, part u: functions: results, deferred calls, calls.
-/
namespace Go.Proofs.YtfmicbbflpkdgaaGreatDoor.D
open Go.RowKit
variable {P : Program} {G : List (List DV)} {φ φ' : Phi} {ρ ρ' : Rho} {S S' : DS} {w w' : World}
variable {n0 N base : Nat} {al : List Nat} {o : Oper} {a : Act} {e : Env} {d : DV} {ps : Puts} {dd : Dd} {rd : RdChk}
def killO (S : DS) : Option Nat → DS
  | none => S
  | some b => S.put b none
def fzL (mode : Nat) (S : DS) : List DV → Option (List DV × DS)
  | [] => some ([], S)
  | v :: vs => match fzH mode S.h v with
    | some (v', b) => match fzL mode (killO S b) vs with | some (vs', S') => some (v' :: vs', S') | none => none
    | none => none
def resOk (P : Program) : List ResultVar → List Res → Bool
  | [], [] => true
  | .tmp t :: rs, .t n :: l => Nat.beq t n && resOk P rs l
  | .cell t ty :: rs, .c n sz :: l => Nat.beq t n && szOk P ty sz && resOk P rs l
  | _, _ => false
def RepAll (φ : Phi) (ρ : Rho) : List Value → List DV → Prop
  | [], [] => True
  | v :: vs, d :: ds => Rep φ ρ v d ∧ RepAll φ ρ vs ds
  | _, _ => False
theorem RepAll.mono (hφ : PhiLe φ φ') (hρ : RhoLe ρ ρ') : ∀ {vs : List Value} {ds : List DV}, RepAll φ ρ vs ds → RepAll φ' ρ' vs ds
  | [], [], _ => trivial
  | _ :: _, _ :: _, h => ⟨h.1.mono hφ hρ, h.2.mono hφ hρ⟩
  | [], _ :: _, h => h
  | _ :: _, [], h => h
theorem RepAll.len : ∀ {vs : List Value} {ds : List DV}, RepAll φ ρ vs ds → vs.length = ds.length
  | [], [], _ => rfl
  | _ :: _, _ :: _, h => by simp [h.2.len]
  | [], _ :: _, h => h.elim
  | _ :: _, [], h => h.elim
theorem RepAll.get : ∀ {vs : List Value} {ds : List DV}, RepAll φ ρ vs ds → ∀ i, i < ds.length → Rep φ ρ (vs.getD i undef) (ds.getD i .nilp)
  | [], [], _, i, hi => by simp at hi
  | _ :: _, _ :: _, h, 0, _ => by simpa using h.1
  | _ :: _, _ :: _, h, i + 1, hi => by simpa using h.2.get i (by simpa using hi)
  | [], _ :: _, h, _, _ => h.elim
  | _ :: _, [], h, _, _ => h.elim
def resRun (tmps : Array Value) : ResultVar → Sem Value
  | .tmp t => pure (tmps.getD t undef)
  | .cell a t => do loadVar t (← asAddr (tmps.getD a undef))
theorem run_results (hs : SR G φ ρ S w) (he : ER φ ρ a.tmps e) : ∀ {rs : List ResultVar} {l : List Res} {vs : List DV}, resOk P rs l = true → resH S.h e l = some vs → ∃ V, (rs.mapM (resRun a.tmps)).run P w = .ok V w ∧ RepAll φ ρ V vs := by
  intro rs
  induction rs with
  | nil => intro l vs h1 h2; cases l with
    | nil => simp only [resH, Option.some.injEq] at h2; subst h2; exact ⟨[], by simp, trivial⟩
    | cons => simp [resOk] at h1
  | cons r rs ih =>
    intro l vs h1 h2
    cases l with
    | nil => cases r <;> simp [resOk] at h1
    | cons x l =>
      cases r with
      | tmp t => cases x with
        | c => simp [resOk] at h1
        | t n =>
          simp only [resOk, Bool.and_eq_true, beqN, decide_eq_true_eq] at h1
          obtain ⟨rfl, h1⟩ := h1
          simp only [resH] at h2
          split at h2
          · rename_i vs' hvs
            cases h2
            obtain ⟨V, g1, g2⟩ := ih h1 hvs
            exact ⟨a.tmps.getD t undef :: V, by simp [List.mapM_cons, resRun, g1], he t, g2⟩
          · cases h2
      | cell t ty => cases x with
        | t => simp [resOk] at h1
        | c n sz =>
          simp only [resOk, Bool.and_eq_true, beqN, decide_eq_true_eq] at h1
          obtain ⟨⟨rfl, hsz⟩, h1⟩ := h1
          simp only [resH] at h2
          split at h2
          · rename_i v vs' hv hvs
            cases h2
            obtain ⟨V, g1, g2⟩ := ih h1 hvs
            obtain ⟨r, o', h3, h4⟩ := cload_row hv
            obtain ⟨ad, h5, h6⟩ := rep_row hs (he t) h3
            obtain ⟨val, h7, h8⟩ := run_loadVar_rep hsz h6 h4
            exact ⟨val :: V, by simp [List.mapM_cons, resRun, g1, h5, asAddr, h7], h8, g2⟩
          · cases h2
theorem results_of {fn : Func} {V : List Value} {vs : List DV} (h : (fn.results.toList.mapM (resRun a.tmps)).run P w = .ok V w) (hr : RepAll φ ρ V vs) : ∃ v, (results fn a.tmps).run P w = .ok v w ∧ ∀ {φ' ρ' vs'}, RepAll φ' ρ' V vs' → Rep φ' ρ' v (one vs') := by
  have e1 : results fn a.tmps = (do let vs ← fn.results.mapM (resRun a.tmps); pure (if h : vs.size = 1 then vs[0] else .tuple vs)) := by
    unfold results
    congr 2
  refine ⟨if h : V.toArray.size = 1 then V.toArray[0] else .tuple V.toArray, ?_, ?_⟩
  · rw [e1, Array.mapM_eq_mapM_toList]
    simp [h]
  · intro φ' ρ' vs' hr
    match V, vs', hr with
    | [v], [d], hr => exact hr.1
    | [], [], _ => exact .tup #[] [] rfl (by simp)
    | v1 :: v2 :: V, d1 :: d2 :: ds, hr =>
      have hne : ¬ (v1 :: v2 :: V).toArray.size = 1 := by simp
      rw [dif_neg hne]
      refine .tup _ _ (by simpa using hr.len) (fun i hi => ?_)
      have := hr.get i hi
      simpa [Array.getD_eq_getD_getElem?, List.getD_eq_getElem?_getD] using this
/-- A result is set free of what it was held by. -/
theorem fz_ok {mode : Nat} (hs : SR G φ ρ S w) {v : Value} {d' : DV} {kb : Option Nat} (hv : Rep φ ρ v d) (h : fzH mode S.h d = some (d', kb)) (n0 : Nat) : ∃ φ', Rep φ' ρ v d' ∧ SR G φ' ρ (killO S kb) w ∧ Trans n0 φ ρ S w φ' ρ (killO S kb) w := by
  have weak : ∀ {k : Nat} {nf nf' : Option Bool} {rows : List (List DV)} {tl : Tl}, Rep φ ρ v (.isl k nf rows tl) → (nf' = nf ∨ nf' = none) → Rep φ ρ v (.isl k nf' rows .no) := by
    intro k nf nf' rows tl h hn
    cases h with
    | isl a n C k nf rows tl c hn' hC hk hnf hz hc hr ht =>
      refine .isl a n C k nf' rows .no c hn' hC hk (fun b hb => hnf b ?_) hz hc hr trivial
      rcases hn with rfl | rfl
      · exact hb
      · cases hb
  have same : ∀ {d' : DV}, Rep φ ρ v d' → ∃ φ', Rep φ' ρ v d' ∧ SR G φ' ρ S w ∧ Trans n0 φ ρ S w φ' ρ S w := fun h => ⟨φ, h, hs, Trans.refl ..⟩
  unfold fzH at h
  split at h
  · cases h; exact same hv
  · split at h
    · cases h; exact same (weak hv (.inl rfl))
    · cases h; exact same hv
  · split at h
    · cases h; exact same (weak hv (.inr rfl))
    · cases h; exact same hv
  · split at h
    · cases h; exact same (weak hv (.inr rfl))
    · rename_i b i n c
      split at h
      · rename_i k rows hb
        simp only [bleN, lenN_eq] at h
        split at h
        · rename_i hle
          rw [decide_eq_true_eq] at hle
          have hle : i + n ≤ rows.length := hle
          cases h
          rw [takeN_eq, dropN_eq]
          cases hv with
          | sl ad b i n C c p hp hC hc1 hc2 ha =>
            obtain ⟨q, g1, g2⟩ := hs.heap b _ hb
            rw [hp] at g1
            cases g1
            obtain ⟨hpk, hoff, hcap, hlen, hphi, arr, el, harr, hsz, hrep⟩ := g2
            have s1 := hs.kill b
            have hown := own_kill hs hb hp
            have hold : ∀ ad u, φ ad = some u → ad.block = p.blk → ad.off < arr.size → arr[ad.off]? = some u := fun ad u h1 h2 => absurd h2 (hphi ad u h1)
            have s2 := s1.fix p.blk arr el harr hown arr.size hold
            have t2 := (Trans.kill (S := S) (w := w) (φ := φ) (ρ := ρ) n0 b).fix p.blk arr arr.size hold (.inr ⟨b, _, p, hb, hp, rfl⟩)
            have hl : ((rows.drop i).take n).length = n := by simp; omega
            refine ⟨_, ?_, s2, t2⟩
            refine .isl (some ad) n C k none _ .no (fun x j => arr.getD ((i + x) * k + j) undef) hl hC (fun r hr => hlen r (List.mem_of_mem_drop (List.mem_of_mem_take hr))) (by simp) (by simp) ?_ ?_ trivial
            · intro ad' had x j hx hj
              cases had
              rcases ha with rfl | h0
              case inr => omega
              have hlt : (i + x) * k + j < arr.size := by
                rw [hsz]
                have := row_end (k := k) (n := j + 1) (show i + x < p.cap by omega) (by omega)
                omega
              rw [hpk, add_new, show i * k + (x * k + j) = (i + x) * k + j by rw [Nat.add_mul]; omega, phiAdd_new hlt]
              simp [Array.getD_eq_getD_getElem?, hlt]
            · intro x j hx hj
              rw [getD_drop rows i x n hx]
              exact (hrep (i + x) j (by omega) hj).mono t2.phi (RhoLe.refl _)
        · cases h
      · cases h
    · cases h; exact same hv
theorem fzL_ok {mode : Nat} (n0 : Nat) : ∀ {V : List Value} {vs vs' : List DV} {φ : Phi} {S S' : DS}, SR G φ ρ S w → RepAll φ ρ V vs → fzL mode S vs = some (vs', S') → ∃ φ', RepAll φ' ρ V vs' ∧ SR G φ' ρ S' w ∧ Trans n0 φ ρ S w φ' ρ S' w
  | [], [], vs', φ, S, S', hs, _, h => by
    simp only [fzL, Option.some.injEq, Prod.mk.injEq] at h
    obtain ⟨rfl, rfl⟩ := h
    exact ⟨φ, trivial, hs, Trans.refl ..⟩
  | v :: V, d :: vs, vs', φ, S, S', hs, hr, h => by
    simp only [fzL] at h
    split at h
    · rename_i v' kb hv
      split at h
      · rename_i vs1 S1 h1
        cases h
        obtain ⟨φ1, g1, g2, g3⟩ := fz_ok hs hr.1 hv n0
        obtain ⟨φ2, k1, k2, k3⟩ := fzL_ok n0 g2 (hr.2.mono g3.phi (RhoLe.refl _)) h1
        exact ⟨φ2, ⟨g1.mono k3.phi (RhoLe.refl _), k1⟩, k2, g3.trans k3⟩
      · cases h
    · cases h
  | [], _ :: _, _, _, _, _, _, hr, _ => hr.elim
  | _ :: _, [], _, _, _, _, _, hr, _ => hr.elim
/-- A deferred call that does nothing when nothing is amiss. -/
def DIdle (P : Program) (G : List (List DV)) (d : DV) (S : DS) : Prop := ∃ f fa fb, d = .func f fa fb ∧ HasBody P f ∧ ∀ φ ρ w va, SR G φ ρ S w → RepL φ ρ va (fa ++ fb) →
  CallsD P f va .returning w fun x u w' => (∃ v, x = .returned v) ∧ u = .returning ∧ ∃ φ' ρ', SR G φ' ρ' S w' ∧ Trans S.nx φ ρ S w φ' ρ' S w'
theorem leaves_ok {fn : Func} {l : List Res} {vs vs' : List DV} {R : DV → DS → Prop} {mode : Nat} {φ0 : Phi} {ρ0 : Rho} {S0 : DS} {w0 : World} (hr : resOk P fn.results.toList l = true) (hv : resH S.h e l = some vs) (hf : fzL mode S vs = some (vs', S')) (hR : R (one vs') S') :
    ∀ (dd : Dd) {φ : Phi} {ρ : Rho} {w : World} {ds : List Deferred}, (∀ d, d ∈ dd → DIdle P G d S) → SR G φ ρ S w → ER φ ρ a.tmps e → DefsOk φ ρ ds dd → n0 ≤ S.nx → Trans n0 φ0 ρ0 S0 w0 φ ρ S w →
    Leaves P fn a.tmps (fun
      | .returned v, w' => ∃ d φ' ρ' S', R d S' ∧ Rep φ' ρ' v d ∧ SR G φ' ρ' S' w' ∧ Trans n0 φ0 ρ0 S0 w0 φ' ρ' S' w'
      | _, _ => False) ds .returning w
  | [], φ, ρ, w, ds, _, hs, he, hd, hn, ht => by
    cases ds with
    | cons => exact hd.elim
    | nil =>
      obtain ⟨V, h1, h2⟩ := run_results hs he hr hv
      obtain ⟨v, h3, h4⟩ := results_of h1 h2
      obtain ⟨φ', h5, h6, h7⟩ := fzL_ok n0 hs h2 hf
      exact ⟨v, h3, _, φ', ρ, S', hR, h4 h5, h6, ht.trans h7⟩
  | d :: dd, φ, ρ, w, ds, hi, hs, he, hd, hn, ht => by
    cases ds with
    | nil => exact hd.elim
    | cons x ds =>
      obtain ⟨⟨f, A, B, fa, fb, rfl, rfl, hA, hB⟩, hd2⟩ := hd
      obtain ⟨f', fa', fb', heq, hbody, hcall⟩ := hi (.func f fa fb) (by simp)
      cases heq
      refine ⟨by simp, .func f, B, f, A ++ B, rfl, ?_, ?_⟩
      · simp [invoke, run_enter hbody]
      · refine (hcall φ ρ w (A ++ B) hs (hA.append hB)).mono fun x u w' h => ?_
        obtain ⟨⟨v, rfl⟩, rfl, φ', ρ', h1, h2⟩ := h
        show Leaves P fn a.tmps _ ds (settle .returning) w'
        have t2 := h2.weaken hn
        exact leaves_ok hr hv hf hR dd (fun d hd => hi d (by simp [hd])) h1 (he.mono t2.phi t2.rho) (hd2.mono t2.phi t2.rho) hn (ht.trans t2)
def chkF (P : Program) (G : List (List DV)) (rd : Nat → RdChk) (f : Nat) (df : DF) : Bool :=
  match P.funcs[f]? with
  | some fn => !(fn.name == "runtime.NumGoroutine") && (match fn.body with | some c => chkC P G (rd fn.ntmps) fn.ntmps c df.body | none => false) && resOk P fn.results.toList df.res
  | none => false
def envA (args : List DV) : Env := fun i => match nth args i with | some v => v | none => .tup []
def RetOk (P : Program) (G : List (List DV)) (df : DF) (R : DV → DS → Prop) (e : Env) (S : DS) (dd : Dd) : Prop :=
  (∀ d, d ∈ dd → DIdle P G d S) ∧ ∃ vs vs' S', resH S.h e df.res = some vs ∧ fzL df.mode S vs = some (vs', S') ∧ R (one vs') S'
def NT (P : Program) (f : Nat) : Nat := match P.funcs[f]? with | some fn => fn.ntmps | none => 0
theorem DCalls.of_good {rd : Nat → RdChk} {f : Nat} {df : DF} {args : List DV} {R : DV → DS → Prop} (hc : chkF P G rd f df = true) (h : Good P G (rd (NT P f)) (NT P f) [.c df.body] (RetOk P G df R) (envA args) S []) : DCalls P G f args S R := by
  unfold chkF at hc
  unfold NT at h
  split at hc
  · rename_i fn hfn
    rw [hfn] at h
    simp only [Bool.and_eq_true, Bool.not_eq_true'] at hc
    obtain ⟨⟨hname, hbody⟩, hres⟩ := hc
    split at hbody
    · rename_i c hc
      refine ⟨⟨fn, c, hfn, hname, hc⟩, fun φ ρ w va hs hva cs => ?_⟩
      let b : Frame := { (default : Frame) with fn := f, kind := .normal }
      have henter : Frame.enter P f va .normal = b.at { tmps := va ++ Array.replicate (fn.ntmps - va.size) undef, defers := [] } [.code c] := by
        simp [Frame.enter, Frame.at, hfn, hc, b]
      have hsim : Sim G S.nx fn.ntmps (envA args) S [] φ ρ { tmps := va ++ Array.replicate (fn.ntmps - va.size) undef, defers := [] } w := by
        refine ⟨hs, fun i => ?_, by simp; omega, trivial, Nat.le_refl _⟩
        show Rep φ ρ ((va ++ Array.replicate (fn.ntmps - va.size) undef).getD i undef) (match nth args i with | some v => v | none => .tup [])
        rw [nth_eq]
        by_cases hi : i < args.length
        · have := hva.2 i hi
          rw [List.getElem?_eq_getElem hi]
          rw [List.getD_eq_getElem?_getD, List.getElem?_eq_getElem hi] at this
          have hi2 : i < va.size := by rw [hva.1]; exact hi
          simpa [Array.getD_eq_getD_getElem?, Array.getElem?_append_left hi2] using this
        · rw [List.getElem?_eq_none (by omega)]
          have hi2 : va.size ≤ i := by rw [hva.1]; omega
          have : (va ++ Array.replicate (fn.ntmps - va.size) undef).getD i undef = undef := by
            rw [Array.getD_eq_getD_getElem?, Array.getElem?_append_right hi2, Array.getElem?_replicate]
            split <;> rfl
          rw [this]
          exact .tup #[] [] rfl (by simp)
      obtain ⟨a', w', todo, e', S', dd', φ', ρ', g1, g2, g3, g4⟩ := h S.nx φ ρ _ w [.code c] (.items (.cons (.code c _ hbody) .nil)) hsim trivial b cs
      rw [← henter] at g4
      obtain ⟨hidle, vs, vs', S2, h1, h2, h3⟩ := g1
      have hl := leaves_ok (n0 := S.nx) (φ0 := φ) (ρ0 := ρ) (S0 := S) (w0 := w) (a := a') hres h1 h2 h3 dd' hidle g2.sr g2.er g2.defs g2.nx g3
      obtain ⟨x, w2, fr, k1, k2, k3, k4⟩ := leaves_steps a'.defers .returning w' { b.at a' todo with mode := .returning } cs rfl rfl rfl hfn rfl hl
      exact ⟨x, w2, fr, k1, Comes.of_steps g4 k2, k3, k4⟩
    · cases hbody
  · cases hc
end Go.Proofs.YtfmicbbflpkdgaaGreatDoor.D
/-
  The D machine, part v: operations that change places.
-/
namespace Go.Proofs.YtfmicbbflpkdgaaGreatDoor.D
open Go.RowKit
variable {P : Program} {G : List (List DV)} {φ φ' : Phi} {ρ ρ' : Rho} {S S' : DS} {w w' : World}
variable {n0 N base : Nat} {al : List Nat} {o : Oper} {a : Act} {e e' : Env} {d : DV} {ps : Puts} {dd : Dd}
def rdO : Opd → List Nat
  | .t n => [n]
  | _ => []
def rdOO : Option Opd → List Nat
  | some x => rdO x
  | none => []
def rdL : List Opd → List Nat
  | [] => []
  | x :: l => rdO x ++ rdL l
def rdP : List (Nat × Nat × Opd) → List Nat
  | [] => []
  | (_, _, x) :: l => rdO x ++ rdP l
/-- The slots that an operation looks at. -/
def reads : DOp → List Nat
  | .bad => []
  | .mv x | .ibx x | .mbx _ x | .ld _ x | .nc x | .un _ x | .cv _ x | .mki _ x | .fa _ x | .fd _ _ x | .rgs _ x | .rgm _ x | .nxs x | .nxm x | .en x | .ex x _ | .len _ x | .clr _ _ x | .df x => rdO x
  | .al _ _ | .mkm _ => []
  | .pk c x y => rdO c ++ (rdO x ++ rdO y)
  | .bd _ qs => rdP qs
  | .ibs _ xs => rdL xs
  | .st _ x v => rdO x ++ rdO v
  | .stf _ t v => t :: rdO v
  | .bin _ x y | .eq _ _ x y | .mks _ _ _ x y | .ia _ x y | .ixs x y | .ixa _ _ _ x y | .lk _ _ _ x y | .apa _ _ x y | .apm _ _ x y | .mx x y => rdO x ++ rdO y
  | .mkf _ xs ys => rdL xs ++ rdL ys
  | .sls x lo hi | .slc _ x lo hi => rdO x ++ (rdOO lo ++ rdOO hi)
  | .mu _ m x v => rdO m ++ (rdO x ++ rdO v)
  | .call _ xs => rdL xs
  | .callv x xs => rdO x ++ rdL xs
theorem ev_congr {x : Opd} (h : ∀ s, s ∈ rdO x → e s = e' s) : ev G e x = ev G e' x := by
  cases x <;> first | rfl | exact h _ (by simp [rdO])
theorem evo_congr {x : Option Opd} (h : ∀ s, s ∈ rdOO x → e s = e' s) : evo G e x = evo G e' x := by
  cases x with
  | none => rfl
  | some x => simp only [evo, ev_congr (G := G) (x := x) h]
theorem evs_congr : ∀ {xs : List Opd}, (∀ s, s ∈ rdL xs → e s = e' s) → evs G e xs = evs G e' xs
  | [], _ => rfl
  | x :: xs, h => by simp only [evs, ev_congr (G := G) (x := x) (fun s hs => h s (by simp [rdL, hs])), evs_congr (xs := xs) (fun s hs => h s (by simp [rdL, hs]))]
theorem evc_congr : ∀ {xs : List Opd}, (∀ s, s ∈ rdL xs → e s = e' s) → evc G e xs = evc G e' xs
  | [], _ => rfl
  | x :: xs, h => by simp only [evc, ev_congr (G := G) (x := x) (fun s hs => h s (by simp [rdL, hs])), evc_congr (xs := xs) (fun s hs => h s (by simp [rdL, hs]))]
theorem evp_congr : ∀ {xs : List (Nat × Nat × Opd)}, (∀ s, s ∈ rdP xs → e s = e' s) → evp G e xs = evp G e' xs
  | [], _ => rfl
  | (_, _, x) :: xs, h => by simp only [evp, ev_congr (G := G) (x := x) (fun s hs => h s (by simp [rdP, hs])), evp_congr (xs := xs) (fun s hs => h s (by simp [rdP, hs]))]
theorem dop_congr {h : Heap} {p : DOp} (hr : ∀ s, s ∈ reads p → e s = e' s) : dop G base e h p = dop G base e' h p := by
  cases p <;> simp only [reads, List.mem_append, List.mem_cons, List.not_mem_nil] at hr <;> first
    | rfl
    | (rename_i x; simp only [dop, ev_congr (G := G) (x := x) hr]; done)
    | (rename_i x y; simp only [dop, ev_congr (G := G) (x := x) hr]; done)
    | (rename_i x y; simp only [dop, ev_congr (G := G) (x := y) hr]; done)
    | (rename_i x y; simp only [dop, ev_congr (G := G) (x := x) (fun s hs => hr s (.inl hs)), ev_congr (G := G) (x := y) (fun s hs => hr s (.inr hs))]; done)
    | (rename_i x y z; simp only [dop, ev_congr (G := G) (x := x) (fun s hs => hr s (.inl hs)), ev_congr (G := G) (x := y) (fun s hs => hr s (.inr (.inl hs))), ev_congr (G := G) (x := z) (fun s hs => hr s (.inr (.inr hs)))]; done)
    | (rename_i x lo hi; simp only [dop, ev_congr (G := G) (x := x) (fun s hs => hr s (.inl hs)), evo_congr (G := G) (x := lo) (fun s hs => hr s (.inr (.inl hs))), evo_congr (G := G) (x := hi) (fun s hs => hr s (.inr (.inr hs)))]; done)
    | (simp only [dop, evc_congr (G := G) hr]; done)
    | (simp only [dop, evp_congr (G := G) hr]; done)
    | (rename_i xs ys; simp only [dop, evs_congr (G := G) (xs := xs) (fun s hs => hr s (.inl hs)), evs_congr (G := G) (xs := ys) (fun s hs => hr s (.inr hs))]; done)
    | skip
theorem upd_ne {s t : Nat} {v : DV} (h : t ≠ s) : upd e s v t = e t := by simp [upd, h]
theorem upd_same {s : Nat} {v : DV} : upd e s v s = v := by simp [upd]
theorem upd_comm {s t : Nat} {v u : DV} (h : s ≠ t) : upd (upd e s v) t u = upd (upd e t u) s v := by
  funext i
  simp only [upd]
  by_cases h1 : i = s
  · subst h1; simp [h]
  · simp [h1]
theorem upd_reads {s : Nat} {v : DV} {l : List Nat} (hs : s ∉ l) : ∀ t, t ∈ l → upd e s v t = e t := fun _ ht => upd_ne fun h => hs (h ▸ ht)
theorem op1_upd {p : DOp} {s : Nat} {v : DV} {K : DV → Env → DS → Dd → Prop} (hs : s ∉ reads p) : Op1 P G base p (upd e s v) S dd K ↔ Op1 P G base p e S dd fun d e' S' dd' => K d (upd e' s v) S' dd' := by
  have hc := upd_reads (e := e) (v := v) hs
  have key : (∃ d ps, dop G base (upd e s v) S.h p = some (d, ps) ∧ K d (upd e s v) (S.puts ps) dd) ↔ ∃ d ps, dop G base e S.h p = some (d, ps) ∧ K d (upd e s v) (S.puts ps) dd := by rw [dop_congr hc]
  cases p
  case call f xs => simp only [Op1, evs_congr (G := G) (e := upd e s v) (e' := e) (xs := xs) hc]
  case callv x xs =>
    simp only [Op1, evs_congr (G := G) (e := upd e s v) (e' := e) (xs := xs) (fun s hs => hc s (by simp [reads, hs])), ev_congr (G := G) (e := upd e s v) (e' := e) (x := x) (fun s hs => hc s (by simp [reads, hs]))]
  case df x => simp only [Op1, ev_congr (G := G) (e := upd e s v) (e' := e) (x := x) hc]
  case nxm x => simp only [Op1, ev_congr (G := G) (e := upd e s v) (e' := e) (x := x) hc]
  case stf n t u =>
    have ht : t ≠ s := fun h => hs (by simp [reads, h])
    simp only [Op1, ev_congr (G := G) (e := upd e s v) (e' := e) (x := u) (fun s hs => hc s (by simp [reads, hs])), upd_ne ht, upd_comm ht.symm]
  all_goals exact key
theorem op1_mono {p : DOp} {K K' : DV → Env → DS → Dd → Prop} (h : Op1 P G base p e S dd K) (hk : ∀ d e' S' dd', K d e' S' dd' → K' d e' S' dd') : Op1 P G base p e S dd K' := by
  have key : (∃ d ps, dop G base e S.h p = some (d, ps) ∧ K d e (S.puts ps) dd) → ∃ d ps, dop G base e S.h p = some (d, ps) ∧ K' d e (S.puts ps) dd := fun ⟨d, ps, h1, h2⟩ => ⟨d, ps, h1, hk _ _ _ _ h2⟩
  cases p
  case call f xs => obtain ⟨R, h1, h2⟩ := h; exact ⟨R, h1, fun d S' hr => hk _ _ _ _ (h2 d S' hr)⟩
  case callv x xs => obtain ⟨f, fa, fb, R, h0, h1, h2⟩ := h; exact ⟨f, fa, fb, R, h0, h1, fun d S' hr => hk _ _ _ _ (h2 d S' hr)⟩
  case df x => obtain ⟨f, fa, fb, h1, h2⟩ := h; exact ⟨f, fa, fb, h1, hk _ _ _ _ h2⟩
  case nxm x => obtain ⟨b, m, n, left, cur, es, h1, h2, h3, h4, h5, h6⟩ := h; exact ⟨b, m, n, left, cur, es, h1, h2, h3, h4, fun hl => hk _ _ _ _ (h5 hl), fun i hi hl => hk _ _ _ _ (h6 i hi hl)⟩
  case stf n t u => obtain ⟨b, k, row, h1, h2, h3, h4, h5, h6⟩ := h; exact ⟨b, k, row, h1, h2, h3, h4, h5, hk _ _ _ _ h6⟩
  all_goals exact key h
def dstX : DOper → Option Nat
  | .o d _ | .g d _ _ _ => some d
  | _ => none
def readsX : DOper → List Nat
  | .o _ p | .n p => reads p
  | .g _ t _ p | .h t _ p => t :: reads p
theorem opX_mono {x : DOper} {K K' : Env → DS → Dd → Prop} (h : OpX P G base x e S dd K) (hk : ∀ e' S' dd', K e' S' dd' → K' e' S' dd') : OpX P G base x e S dd K' := by
  cases x with
  | o d p =>
    simp only [OpX] at h ⊢
    exact op1_mono h fun _ _ _ _ => hk _ _ _
  | n p =>
    simp only [OpX] at h ⊢
    exact op1_mono h fun _ _ _ _ => hk _ _ _
  | g d t b p =>
    simp only [OpX] at h ⊢
    split at h
    · exact op1_mono h fun _ _ _ _ => hk _ _ _
    · exact hk _ _ _ h
  | h t b p =>
    simp only [OpX] at h ⊢
    split at h
    · exact op1_mono h fun _ _ _ _ => hk _ _ _
    · exact hk _ _ _ h
theorem opX_upd {x : DOper} {s : Nat} {v : DV} {K : Env → DS → Dd → Prop} (hs : s ∉ readsX x) (hd : dstX x ≠ some s) : OpX P G base x (upd e s v) S dd K ↔ OpX P G base x e S dd fun e' S' dd' => K (upd e' s v) S' dd' := by
  cases x with
  | o d p =>
    have hne : d ≠ s := fun h => hd (by simp [dstX, h])
    simp only [OpX, op1_upd (P := P) (G := G) (base := base) (e := e) (S := S) (dd := dd) (p := p) (s := s) (v := v) hs, upd_comm hne]
  | n p => simp only [OpX, op1_upd (P := P) (G := G) (base := base) (e := e) (S := S) (dd := dd) (p := p) (s := s) (v := v) hs]
  | g d t b p =>
    have hne : d ≠ s := fun h => hd (by simp [dstX, h])
    have ht : t ≠ s := fun h => hs (by simp [readsX, h])
    have hs' : s ∉ reads p := fun h => hs (by simp [readsX, h])
    have hw : want (upd e s v) t b = want e t b := by simp [want, upd_ne ht]
    simp only [OpX, hw]
    split
    · simp only [op1_upd (P := P) (G := G) (base := base) (e := e) (S := S) (dd := dd) (p := p) (s := s) (v := v) hs', upd_comm hne]
    · rw [upd_comm hne]
  | h t b p =>
    have ht : t ≠ s := fun h => hs (by simp [readsX, h])
    have hs' : s ∉ reads p := fun h => hs (by simp [readsX, h])
    have hw : want (upd e s v) t b = want e t b := by simp [want, upd_ne ht]
    simp only [OpX, hw]
    split
    · simp only [op1_upd (P := P) (G := G) (base := base) (e := e) (S := S) (dd := dd) (p := p) (s := s) (v := v) hs']
    · rfl
/-! ### Kinds -/
/-- The heap is neither read nor written. -/
def hfree : DOp → Bool
  | .mv _ | .pk .. | .ibx _ | .bd .. | .ibs .. | .nc _ | .bin .. | .un .. | .eq .. | .cv .. | .mki .. | .mkf .. | .sls .. | .fa .. | .fd .. | .ixs .. | .ixa .. | .ex .. | .mx .. => true
  | _ => false
/-- The heap is read. -/
def hread : DOp → Bool
  | .ld .. | .ia .. | .slc .. | .lk .. | .len .. | .en _ => true
  | _ => false
/-- A new object, and the heap is not read. -/
def hnew : DOp → Bool
  | .mbx .. | .al .. | .mkm _ | .mks .. | .rgs .. => true
  | _ => false
theorem hfree_dop {p : DOp} (hp : hfree p = true) (h h' : Heap) : dop G base e h p = dop G base e h' p := by
  cases p <;> first | (cases hp; done) | rfl
theorem hfree_ps {p : DOp} (hp : hfree p = true) {h : Heap} (hd : dop G base e h p = some (d, ps)) : ps = [] := by
  cases p <;> first | (cases hp; done) | skip
  all_goals
    simp only [dop, some1] at hd
    repeat' split at hd
    all_goals first | (cases hd; rfl) | (cases hd; done)
theorem hread_ps {p : DOp} (hp : hread p = true) {h : Heap} (hd : dop G base e h p = some (d, ps)) : ps = [] := by
  cases p <;> first | (cases hp; done) | skip
  all_goals
    simp only [dop, some1] at hd
    repeat' split at hd
    all_goals first | (cases hd; rfl) | (cases hd; done)
theorem hnew_dop {p : DOp} (hp : hnew p = true) (h h' : Heap) : dop G base e h p = dop G base e h' p := by
  cases p <;> first | (cases hp; done) | rfl
theorem hnew_ps {p : DOp} (hp : hnew p = true) {h : Heap} (hd : dop G base e h p = some (d, ps)) : ∃ j o, nameOf p = some j ∧ ps = [(base + j, some o)] := by
  cases p <;> first | (cases hp; done) | skip
  all_goals
    simp only [dop] at hd
    repeat' split at hd
    all_goals first | (cases hd; exact ⟨_, _, rfl, rfl⟩) | (cases hd; done)
end Go.Proofs.YtfmicbbflpkdgaaGreatDoor.D
/-
  The D machine, part w: a heap that holds one object more.
-/
namespace Go.Proofs.YtfmicbbflpkdgaaGreatDoor.D
open Go.RowKit
variable {P : Program} {G : List (List DV)} {φ φ' : Phi} {ρ ρ' : Rho} {S S' : DS} {w w' : World}
variable {n0 N base : Nat} {al : List Nat} {o : Oper} {a : Act} {e e' : Env} {d : DV} {ps : Puts} {dd : Dd}
theorem DCalls.frame {f : Nat} {args : List DV} {R : DV → DS → Prop} {id : Nat} {ob : DO} (h : DCalls P G f args S R) (hid : S.h id = none) (hlt : id < S.nx) : DCalls P G f args (S.put id (some ob)) fun d S' => ∃ S0, R d S0 ∧ S0.h id = none ∧ S' = S0.put id (some ob) := by
  refine ⟨h.1, fun φ ρ w va hs hva => ?_⟩
  have hsub : ∀ id' o', S.h id' = some o' → (S.put id (some ob)).h id' = some o' := by
    intro id' o' h1
    rw [ds_put, put_ne _ _ (fun h2 => by rw [h2, hid] at h1; cases h1)]
    exact h1
  have s0 : SR G φ ρ S w := hs.forget hsub (Nat.le_refl _)
  obtain ⟨p, hp, hor⟩ := hs.heap id ob (by rw [ds_put, put_same])
  have hblt := (hs.dom id p hp).2
  have hsup : ∀ b, Own ρ S b → Own ρ (S.put id (some ob)) b := fun b ⟨i, o1, q, h1, h2, h3⟩ => ⟨i, o1, q, hsub _ _ h1, h2, h3⟩
  have hno : ¬ Own ρ S p.blk := by
    rintro ⟨i, o1, q, h1, h2, h3⟩
    have : i = id := hs.inj i id o1 ob q p (hsub _ _ h1) (by rw [ds_put, put_same]) h2 hp h3
    rw [this, hid] at h1
    cases h1
  refine (h.2 φ ρ w va s0 hva).mono fun x w' hx => ?_
  cases x with
  | panicked c => exact hx
  | outgrown => exact hx
  | returned v =>
    obtain ⟨d, φ', ρ', S0, h1, h2, h3, h4⟩ := hx
    have hp' : ρ' id = some p := by rw [h4.keep id hlt]; exact hp
    have hno' : ¬ Own ρ' S0 p.blk := fun ho => by
      rcases h4.own _ ho with h5 | h5
      · omega
      · exact hno h5
    have hor' : OR φ' ρ' w' p ob := hor.step (h4.frame _ hblt hno) h4.phi h4.rho fun ad u ha hb => by
      rcases h4.news ad u ha with h5 | h5 | h5
      · exact h5
      · omega
      · rw [hb] at h5; exact absurd h5 hno
    have hnone : S0.h id = none := by
      cases h0 : S0.h id with
      | none => rfl
      | some o1 => exact absurd ⟨id, o1, p, h0, hp', rfl⟩ hno'
    refine ⟨d, φ', ρ', S0.put id (some ob), ⟨S0, h1, hnone, rfl⟩, h2, ⟨h3.phi, ?_, ?_, h3.dom, h3.glob⟩, ⟨h4.phi, h4.rho, h4.keep, h4.nx, h4.size, h4.os, h4.tape, h4.output, fun b hb hn => h4.frame b hb fun ho => hn (hsup b ho), ?_, ?_, h4.drawn⟩⟩
    · intro i o1 ho1
      by_cases hi : i = id
      · subst hi
        rw [ds_put, put_same] at ho1
        cases ho1
        exact ⟨p, hp', hor'⟩
      · rw [ds_put, put_ne _ _ hi] at ho1
        exact h3.heap i o1 ho1
    · intro i i' o1 o2 p1 p2 g1 g2 g3 g4 g5
      by_cases hi : i = id
      · by_cases hi' : i' = id
        · rw [hi, hi']
        · subst hi
          rw [hp'] at g3
          cases g3
          rw [ds_put, put_ne _ _ hi'] at g2
          exact absurd ⟨i', o2, p2, g2, g4, g5.symm⟩ hno'
      · rw [ds_put, put_ne _ _ hi] at g1
        by_cases hi' : i' = id
        · subst hi'
          rw [hp'] at g4
          cases g4
          exact absurd ⟨i, o1, p1, g1, g3, g5⟩ hno'
        · rw [ds_put, put_ne _ _ hi'] at g2
          exact h3.inj i i' o1 o2 p1 p2 g1 g2 g3 g4 g5
    · rintro b ⟨i, o1, q, g1, g2, g3⟩
      by_cases hi : i = id
      · subst hi
        rw [hp'] at g2
        cases g2
        exact .inr ⟨i, ob, p, by rw [ds_put, put_same], hp, g3⟩
      · rw [ds_put, put_ne _ _ hi] at g1
        rcases h4.own b ⟨i, o1, q, g1, g2, g3⟩ with h5 | h5
        · exact .inl h5
        · exact .inr (hsup b h5)
    · intro ad u ha
      rcases h4.news ad u ha with h5 | h5 | h5
      · exact .inl h5
      · exact .inr (.inl h5)
      · exact .inr (.inr (hsup _ h5))
def HLe (h h' : Heap) : Prop := ∀ b o, h b = some o → h' b = some o
theorem cload_le {h h' : Heap} (hl : HLe h h') {n : Option Nat} {x v : DV} (hd : cload h n x = some v) : cload h' n x = some v := by
  unfold cload at hd ⊢
  split at hd
  · exact hd
  · split at hd
    · rename_i hb
      simp only [hl _ _ hb]
      exact hd
    · cases hd
  · cases hd
theorem rowsOf_le {h h' : Heap} (hl : HLe h h') {k : Nat} {x : DV} {r : List (List DV)} (hd : rowsOf k h x = some r) : rowsOf k h' x = some r := by
  unfold rowsOf at hd ⊢
  split at hd
  · exact hd
  · split at hd
    · rename_i hb
      simp only [hl _ _ hb]
      exact hd
    · cases hd
  · cases hd
theorem slcKH_le {h h' : Heap} (hl : HLe h h') {k : Nat} {x : DV} (hd : slcKH k h x = true) : slcKH k h' x = true := by
  unfold slcKH at hd ⊢
  split at hd
  · exact hd
  · split at hd
    · rename_i hb
      simp only [hl _ _ hb]
      exact hd
    · cases hd
  · cases hd
theorem capA_le {h h' : Heap} (hl : HLe h h') {j k : Nat} {s : DV} {new : List (List DV)} {r : DV × Puts} (hd : capA j k h s new = some r) : capA j k h' s new = some r := by
  obtain ⟨d, ps⟩ := r
  rcases capA_spec hd with ⟨rfl, rfl, rfl, hs⟩ | ⟨hne, nf, rows, tl, rfl, h1, h2, h3, rfl, hc⟩
  · rcases hs with ⟨k', nf, rows, tl, rfl⟩ | ⟨b, i, n, c, rfl⟩ <;> rfl
  · obtain ⟨y, ys, rfl⟩ := List.exists_cons_of_ne_nil hne
    have e1 : Nat.beq k k = true := Nat.beq_refl k
    have e2 : Nat.ble (lenN rows) 1048576 = true := by rw [bleN, lenN_eq]; exact decide_eq_true h1
    have e3 : Nat.ble (lenN (y :: ys)) 1048576 = true := by rw [bleN, lenN_eq]; exact decide_eq_true h2
    have hln : Nat.add (lenN rows) (lenN (y :: ys)) = rows.length + (y :: ys).length := by rw [lenN_eq, lenN_eq]; rfl
    rcases hc with ⟨rfl, rfl⟩ | ⟨t, i, m, rfl, ht, rfl, rfl⟩
    · simp only [capA, e1, e2, e3, h3, hln]
    · have e4 : Nat.beq (i + rows.length) (Nat.add i (lenN rows)) = true := by rw [lenN_eq]; exact Nat.beq_refl _
      simp only [capA, e1, e2, e3, h3, hl _ _ ht, e4, hln]
theorem capM_le {h h' : Heap} (hl : HLe h h') {j k : Nat} {s : DV} {new : List (List DV)} {r : DV × Puts} (hd : capM j k h s new = some r) : capM j k h' s new = some r := by
  cases new with
  | nil => exact hd
  | cons y ys =>
    simp only [capM] at hd ⊢
    split at hd
    · cases s <;> first | exact hd | skip
      case isl k' nf rows tl => cases rows <;> cases tl <;> exact hd
      rename_i b i n c
      dsimp only at hd ⊢
      cases hb : h b with
      | none => rw [hb] at hd; cases hd
      | some ob =>
        rw [hb] at hd
        rw [hl _ _ hb]
        exact hd
    · cases hd
theorem dop_le {h h' : Heap} (hl : HLe h h') {p : DOp} {r : DV × Puts} (hd : dop G base e h p = some r) : dop G base e h' p = some r := by
  cases p <;> first | exact hd | skip
  case ld n x =>
    simp only [dop, some1] at hd ⊢
    split at hd
    · rename_i v hv
      rw [cload_le hl hv]; exact hd
    · cases hd
  case st n x v =>
    simp only [dop] at hd ⊢
    split at hd
    · split at hd
      · rename_i hb
        simp only [hl _ _ hb]
        exact hd
      · cases hd
    · cases hd
  case slc k x lo hi =>
    simp only [dop] at hd ⊢
    split at hd
    · rename_i hk
      rw [slcKH_le hl hk]; exact hd
    · cases hd
  case ia k x i =>
    simp only [dop] at hd ⊢
    split at hd
    · rename_i hk
      rw [slcKH_le hl hk]; exact hd
    · cases hd
  case lk kd z ok m x =>
    simp only [dop] at hd ⊢
    split at hd
    · generalize ev G e m = dm at hd ⊢
      cases dm <;> first | exact hd | (simp only at hd; cases hd; done) | skip
      rename_i b
      simp only at hd ⊢
      cases hb : h b with
      | none => rw [hb] at hd; cases hd
      | some ob =>
        rw [hb] at hd
        rw [hl _ _ hb]
        exact hd
    · cases hd
  case mu kd m x v =>
    simp only [dop] at hd ⊢
    split at hd
    · split at hd
      · split at hd
        · rename_i hb
          simp only [hl _ _ hb]
          exact hd
        · cases hd
      · cases hd
    · cases hd
  case rgm j x =>
    simp only [dop] at hd ⊢
    split at hd
    · split at hd
      · rename_i hb
        simp only [hl _ _ hb]
        exact hd
      · cases hd
    · cases hd
  case nxs x =>
    simp only [dop] at hd ⊢
    split at hd
    · split at hd
      · rename_i hb
        simp only [hl _ _ hb]
        exact hd
      · cases hd
    · cases hd
  case nxm x =>
    simp only [dop] at hd ⊢
    split at hd
    · split at hd
      · rename_i hb
        simp only [hl _ _ hb]
        split at hd
        · rename_i hb2
          simp only [hl _ _ hb2]
          exact hd
        · cases hd
      · cases hd
    · cases hd
  case en x =>
    simp only [dop] at hd ⊢
    split at hd
    · split at hd
      · rename_i hb
        simp only [hl _ _ hb]
        split at hd
        · rename_i hb2
          simp only [hl _ _ hb2]
          exact hd
        · cases hd
      · cases hd
    · cases hd
  case len kd x =>
    simp only [dop] at hd ⊢
    generalize ev G e x = dx at hd ⊢
    cases hlp : dLenP kd dx with
    | some n => rw [hlp] at hd; exact hd
    | none =>
      rw [hlp] at hd
      simp only at hd ⊢
      split at hd
      · split at hd
        · rename_i hb
          simp only [hl _ _ hb]
          exact hd
        · cases hd
      · cases hd
  case apa j k s x =>
    simp only [dop] at hd ⊢
    split at hd
    · rename_i hn
      rw [rowsOf_le hl hn]
      exact capA_le hl hd
    · cases hd
  case apm j k s x =>
    simp only [dop] at hd ⊢
    split at hd
    · rename_i hn
      rw [rowsOf_le hl hn]
      exact capM_le hl hd
    · cases hd
  case clr k z x =>
    simp only [dop] at hd ⊢
    split at hd
    · split at hd
      · rename_i hb
        simp only [hl _ _ hb]
        exact hd
      · cases hd
    · cases hd
theorem dop_keys {h : Heap} {p : DOp} (hd : dop G base e h p = some (d, ps)) : ∀ q, q ∈ ps → (∃ j, nameOf p = some j ∧ q.1 = base + j) ∨ h q.1 ≠ none := by
  cases p <;> first
    | (cases hd; simp; done)
    | (cases hd; intro q hq; simp only [List.mem_singleton] at hq; subst hq; exact .inl ⟨_, rfl, rfl⟩)
    | skip
  case apa j k s x =>
    simp only [dop] at hd
    split at hd
    · rcases capA_spec hd with ⟨_, _, rfl, _⟩ | ⟨_, nf, rows, tl, _, _, _, _, _, ⟨_, rfl⟩ | ⟨t, i, m, _, ht, _, rfl⟩⟩
      · simp
      · intro q hq; simp only [List.mem_singleton] at hq; subst hq; exact .inl ⟨_, rfl, rfl⟩
      · intro q hq
        simp only [List.mem_cons, List.not_mem_nil, or_false] at hq
        rcases hq with rfl | rfl
        · exact .inr (by rw [ht]; simp)
        · exact .inl ⟨_, rfl, rfl⟩
    · cases hd
  case apm j k s x =>
    simp only [dop] at hd
    split at hd
    · cases capM_spec hd with
      | nil => simp
      | ex nf => intro q hq; simp only [List.mem_singleton] at hq; subst hq; exact .inl ⟨_, rfl, rfl⟩
      | room b i n c rows h1 h2 => intro q hq; simp only [List.mem_singleton] at hq; subst hq; exact .inr (by rw [h2]; simp)
      | grow b i n c rows h1 h2 => intro q hq; simp only [List.mem_singleton] at hq; subst hq; exact .inl ⟨_, rfl, rfl⟩
      | any b n rows h1 h2 =>
        intro q hq
        simp only [List.mem_cons, List.not_mem_nil, or_false] at hq
        rcases hq with rfl | rfl
        · exact .inr (by rw [h2]; simp)
        · exact .inl ⟨_, rfl, rfl⟩
    · cases hd
  all_goals
    simp only [dop, some1] at hd
    repeat' split at hd
    all_goals first
      | (cases hd; done)
      | (cases hd; simp; done)
      | (cases hd; intro q hq; simp only [List.mem_singleton] at hq; subst hq; first | exact .inl ⟨_, rfl, rfl⟩ | (refine .inr ?_; simp_all; done))
theorem put_comm {x y : Nat} (S : DS) (o o' : Option DO) (h : x ≠ y) : (S.put x o).put y o' = (S.put y o').put x o := by
  simp only [DS.put, DS.mk.injEq, and_true]
  funext i
  simp only [Heap.put]
  by_cases h1 : i = y
  · subst h1; simp [Ne.symm h]
  · simp [h1]
theorem puts_put {x : Nat} {ob : Option DO} : ∀ {ps : Puts} {S : DS}, (∀ q, q ∈ ps → q.1 ≠ x) → (S.put x ob).puts ps = (S.puts ps).put x ob
  | [], S, _ => rfl
  | (b, o) :: ps, S, h => by
    show ((S.put x ob).put b o).puts ps = ((S.put b o).puts ps).put x ob
    rw [put_comm S ob o (fun hx => h (b, o) (by simp) hx.symm), puts_put (fun q hq => h q (by simp [hq]))]
theorem puts_none {x : Nat} : ∀ {ps : Puts} {S : DS}, (∀ q, q ∈ ps → q.1 ≠ x) → S.h x = none → (S.puts ps).h x = none
  | [], S, _, h => h
  | (b, o) :: ps, S, hk, h => puts_none (ps := ps) (S := S.put b o) (fun q hq => hk q (by simp [hq])) (by rw [ds_put, put_ne _ _ (fun hx => hk (b, o) (by simp) hx.symm)]; exact h)
theorem put_hle {id : Nat} {ob : DO} (hid : S.h id = none) : HLe S.h (S.put id (some ob)).h := by
  intro b o1 h1
  rw [ds_put, put_ne _ _ (fun h2 => by rw [h2, hid] at h1; cases h1)]
  exact h1
/-- One object more. -/
theorem op1_frame {p : DOp} {id : Nat} {ob : DO} {K : DV → Env → DS → Dd → Prop} (h : Op1 P G base p e S dd K) (hid : S.h id = none) (hlt : id < S.nx) (hne : ∀ j, nameOf p = some j → base + j ≠ id) :
    Op1 P G base p e (S.put id (some ob)) dd fun d e' S' dd' => ∃ S0, S' = S0.put id (some ob) ∧ S0.h id = none ∧ K d e' S0 dd' := by
  have hle := put_hle (ob := ob) hid
  have key : (∃ d ps, dop G base e S.h p = some (d, ps) ∧ K d e (S.puts ps) dd) → ∃ d ps, dop G base e (S.put id (some ob)).h p = some (d, ps) ∧ ∃ S0, (S.put id (some ob)).puts ps = S0.put id (some ob) ∧ S0.h id = none ∧ K d e S0 dd := by
    rintro ⟨d, ps, h1, h2⟩
    have hk : ∀ q, q ∈ ps → q.1 ≠ id := fun q hq hx => by
      rcases dop_keys h1 q hq with ⟨j, h3, h4⟩ | h3
      · exact hne j h3 (by rw [← h4, hx])
      · rw [hx] at h3; exact h3 hid
    exact ⟨d, ps, dop_le hle h1, S.puts ps, puts_put hk, puts_none hk hid, h2⟩
  cases p
  case call f xs =>
    obtain ⟨R, h1, h2⟩ := h
    exact ⟨_, h1.frame hid hlt, fun d S' ⟨S0, hr, h0, hS⟩ => ⟨S0, hS, h0, h2 d S0 hr⟩⟩
  case callv x xs =>
    obtain ⟨f, fa, fb, R, h0, h1, h2⟩ := h
    exact ⟨f, fa, fb, _, h0, h1.frame hid hlt, fun d S' ⟨S0, hr, h0, hS⟩ => ⟨S0, hS, h0, h2 d S0 hr⟩⟩
  case df x =>
    obtain ⟨f, fa, fb, h1, h2⟩ := h
    exact ⟨f, fa, fb, h1, S, rfl, hid, h2⟩
  case stf n t v =>
    obtain ⟨b, k, row, h1, h2, h3, h4, h5, h6⟩ := h
    have hne : id ≠ b := fun hx => by rw [← hx, hid] at h2; cases h2
    exact ⟨b, k, row, h1, hle _ _ h2, h3, h4, h5, S.put b none, put_comm _ _ _ hne, by rw [ds_put, put_ne _ _ hne]; exact hid, h6⟩
  case nxm x =>
    obtain ⟨b, m, n, left, cur, es, h1, h2, h3, h4, h5, h6⟩ := h
    have hne : id ≠ b := fun hx => by rw [← hx, hid] at h2; cases h2
    exact ⟨b, m, n, left, cur, es, h1, hle _ _ h2, hle _ _ h3, h4, fun hl => ⟨S, rfl, hid, h5 hl⟩, fun i hi hl => ⟨_, put_comm _ _ _ hne, by rw [ds_put, put_ne _ _ hne]; exact hid, h6 i hi hl⟩⟩
  all_goals exact key h
theorem opX_frame {x : DOper} {id : Nat} {ob : DO} {K : Env → DS → Dd → Prop} (h : OpX P G base x e S dd K) (hid : S.h id = none) (hlt : id < S.nx) (hne : ∀ j, nameOf (opX x) = some j → base + j ≠ id) :
    OpX P G base x e (S.put id (some ob)) dd fun e' S' dd' => ∃ S0, S' = S0.put id (some ob) ∧ S0.h id = none ∧ K e' S0 dd' := by
  cases x with
  | o d p => exact op1_frame (K := fun v e' S' dd' => K (upd e' d v) S' dd') h hid hlt hne
  | n p => exact op1_frame (K := fun _ e' S' dd' => K e' S' dd') h hid hlt hne
  | g d t b p =>
    simp only [OpX] at h ⊢
    split at h
    · rename_i hw
      exact op1_frame (K := fun v e' S' dd' => K (upd e' d v) S' dd') h hid hlt hne
    · exact ⟨S, rfl, hid, h⟩
  | h t b p =>
    simp only [OpX] at h ⊢
    split at h
    · exact op1_frame (K := fun _ e' S' dd' => K e' S' dd') h hid hlt hne
    · exact ⟨S, rfl, hid, h⟩
end Go.Proofs.YtfmicbbflpkdgaaGreatDoor.D
/-
  The D machine, part x: operations without an order between them change places.
-/
namespace Go.Proofs.YtfmicbbflpkdgaaGreatDoor.D
open Go.RowKit
variable {P : Program} {G : List (List DV)} {S S' : DS} {base : Nat} {e e' : Env} {d : DV} {ps : Puts} {dd : Dd}
def updO (d : Option Nat) (v : DV) (e : Env) : Env := match d with | some s => upd e s v | none => e
def wantX : DOper → Env → Bool
  | .o _ _, _ | .n _, _ => true
  | .g _ t b _, e | .h t b _, e => want e t b
theorem opX_want {x : DOper} {K : Env → DS → Dd → Prop} : OpX P G base x e S dd K ↔ match wantX x e with
    | true => Op1 P G base (opX x) e S dd fun v e' S' dd' => K (updO (dstX x) v e') S' dd'
    | false => K (updO (dstX x) (.tup []) e) S dd := by
  cases x <;> exact Iff.rfl
def quiet (p : DOp) : Bool := hfree p || hread p || hnew p
theorem quiet_op1 {p : DOp} (hq : quiet p = true) {K : DV → Env → DS → Dd → Prop} : Op1 P G base p e S dd K ↔ ∃ d ps, dop G base e S.h p = some (d, ps) ∧ K d e (S.puts ps) dd := by
  cases p <;> first | exact Iff.rfl | (cases hq; done)
/-- What a quiet operation comes to. -/
def qe (G : List (List DV)) (base : Nat) (x : DOper) (e : Env) (h : Heap) : Option (DV × Puts) := match wantX x e with
  | true => dop G base e h (opX x)
  | false => some (.tup [], [])
theorem quiet_iff {x : DOper} (hq : quiet (opX x) = true) {K : Env → DS → Dd → Prop} : OpX P G base x e S dd K ↔ ∃ v ps, qe G base x e S.h = some (v, ps) ∧ K (updO (dstX x) v e) (S.puts ps) dd := by
  rw [opX_want, qe]
  cases wantX x e with
  | true => exact quiet_op1 hq
  | false =>
    refine ⟨fun h => ⟨_, _, rfl, h⟩, fun ⟨v, ps, h1, h2⟩ => ?_⟩
    cases h1
    exact h2
theorem wantX_congr {x : DOper} (h : ∀ s, s ∈ readsX x → e s = e' s) : wantX x e = wantX x e' := by
  cases x with
  | o d p => rfl
  | n p => rfl
  | g d t b p => simp only [wantX, want, h t (by simp [readsX])]
  | h t b p => simp only [wantX, want, h t (by simp [readsX])]
theorem reads_X {x : DOper} : ∀ s, s ∈ reads (opX x) → s ∈ readsX x := by
  cases x <;> simp only [opX, readsX] <;> intro s hs <;> first | exact hs | exact List.mem_cons_of_mem _ hs
theorem qe_congr {x : DOper} {h : Heap} (hr : ∀ s, s ∈ readsX x → e s = e' s) : qe G base x e h = qe G base x e' h := by
  rw [qe, qe, wantX_congr hr, dop_congr (fun s hs => hr s (reads_X s hs))]
theorem qe_free {x : DOper} (hp : hfree (opX x) = true) (h h' : Heap) : qe G base x e h = qe G base x e h' := by
  rw [qe, qe, hfree_dop hp h h']
theorem qe_free_ps {x : DOper} (hp : hfree (opX x) = true) {h : Heap} (hd : qe G base x e h = some (d, ps)) : ps = [] := by
  rw [qe] at hd
  split at hd
  · exact hfree_ps hp hd
  · cases hd; rfl
theorem qe_read_ps {x : DOper} (hp : hread (opX x) = true) {h : Heap} (hd : qe G base x e h = some (d, ps)) : ps = [] := by
  rw [qe] at hd
  split at hd
  · exact hread_ps hp hd
  · cases hd; rfl
/-- The slots that an operation writes. -/
def wrX (x : DOper) : List Nat := (dstX x).toList ++ (match opX x with | .stf _ t _ => [t] | _ => [])
theorem updO_ne {dst : Option Nat} {v : DV} {s : Nat} (h : s ∉ dst.toList) : updO dst v e s = e s := by
  cases dst with
  | none => rfl
  | some t => exact upd_ne (by simpa using h)
theorem opX_env {x : DOper} {K : Env → DS → Dd → Prop} (h : OpX P G base x e S dd K) : OpX P G base x e S dd fun e' S' dd' => (∀ s, s ∉ wrX x → e' s = e s) ∧ K e' S' dd' := by
  rw [opX_want] at h ⊢
  cases hw : wantX x e with
  | false =>
    rw [hw] at h
    exact ⟨fun s hs => updO_ne fun h => hs (by simp only [wrX, List.mem_append]; exact .inl h), h⟩
  | true =>
    rw [hw] at h
    simp only at h ⊢
    have base : ∀ v, ∀ s, s ∉ wrX x → updO (dstX x) v e s = e s := fun v s hs => updO_ne fun h => hs (by simp only [wrX, List.mem_append]; exact .inl h)
    generalize hp : opX x = p at h
    cases p
    case call f xs => obtain ⟨R, h1, h2⟩ := h; exact ⟨R, h1, fun d S' hr => ⟨base _, h2 d S' hr⟩⟩
    case callv y xs => obtain ⟨f, fa, fb, R, h0, h1, h2⟩ := h; exact ⟨f, fa, fb, R, h0, h1, fun d S' hr => ⟨base _, h2 d S' hr⟩⟩
    case df y => obtain ⟨f, fa, fb, h1, h2⟩ := h; exact ⟨f, fa, fb, h1, base _, h2⟩
    case nxm y => obtain ⟨b, m, n, left, cur, es, h1, h2, h3, h4, h5, h6⟩ := h; exact ⟨b, m, n, left, cur, es, h1, h2, h3, h4, fun hl => ⟨base _, h5 hl⟩, fun i hi hl => ⟨base _, h6 i hi hl⟩⟩
    case stf n t u =>
      obtain ⟨b, k, row, h1, h2, h3, h4, h5, h6⟩ := h
      refine ⟨b, k, row, h1, h2, h3, h4, h5, fun s hs => ?_, h6⟩
      have hs' : s ∉ (dstX x).toList ∧ s ≠ t := by
        simp only [wrX, hp, List.mem_append, List.mem_singleton, not_or] at hs
        exact hs
      rw [updO_ne hs'.1, upd_ne hs'.2]
    all_goals
      obtain ⟨d, ps, h1, h2⟩ := h
      exact ⟨d, ps, h1, base _, h2⟩
/-- Two operations that look at nothing the other writes. -/
def disj (l m : List Nat) : Bool := HasL (fun s => !memN s m) l
theorem disj_spec {l m : List Nat} (h : disj l m = true) : ∀ s, s ∈ l → s ∉ m := by
  intro s hs hm
  have := (HasL_iff _ _).1 h s hs
  rw [(memN_iff s m).2 hm] at this
  cases this
def sep (c i : DOper) : Bool := disj (wrX c) (readsX i) && disj (wrX i) (readsX c) && disj (wrX c) (wrX i)
theorem sep_spec {c i : DOper} (h : sep c i = true) : (∀ s, s ∈ wrX c → s ∉ readsX i) ∧ (∀ s, s ∈ wrX i → s ∉ readsX c) ∧ ∀ s, s ∈ wrX c → s ∉ wrX i := by
  simp only [sep, Bool.and_eq_true] at h
  exact ⟨disj_spec h.1.1, disj_spec h.1.2, disj_spec h.2⟩
theorem dst_wr {x : DOper} {s : Nat} (h : dstX x = some s) : s ∈ wrX x := by simp [wrX, h]
theorem opX_updO {c x : DOper} (hs : sep c x = true) {v : DV} {K : Env → DS → Dd → Prop} : OpX P G base x (updO (dstX c) v e) S dd K ↔ OpX P G base x e S dd fun e' S' dd' => K (updO (dstX c) v e') S' dd' := by
  obtain ⟨h1, h2, h3⟩ := sep_spec hs
  cases hd : dstX c with
  | none => exact Iff.rfl
  | some s => exact opX_upd (h1 s (dst_wr hd)) (fun h => h3 s (dst_wr hd) (dst_wr h))
/-- Behind: a quiet operation that leaves the heap alone (c), and any (i): i may come first, if c still comes to the same. -/
theorem swap_q {c i : DOper} (hq : hfree (opX c) = true ∨ hread (opX c) = true) (hs : sep c i = true) {K : Env → DS → Dd → Prop} (h : OpX P G base c e S dd fun e1 S1 dd1 => OpX P G base i e1 S1 dd1 K)  :
    ∃ v, qe G base c e S.h = some (v, []) ∧ OpX P G base i e S dd fun e' S' dd' => (∀ h, qe G base c e' h = qe G base c e h) ∧ K (updO (dstX c) v e') S' dd' := by
  have hqq : quiet (opX c) = true := by rcases hq with h | h <;> simp [quiet, h]
  obtain ⟨v, ps, h1, h2⟩ := (quiet_iff hqq).1 h
  have hps : ps = [] := by
    rcases hq with hq | hq
    · exact qe_free_ps hq h1
    · exact qe_read_ps hq h1
  subst hps
  refine ⟨v, h1, opX_mono (opX_env ((opX_updO hs).1 h2)) fun e' S' dd' ⟨g1, g2⟩ => ⟨fun h => qe_congr fun s hs' => g1 s fun hw => (sep_spec hs).2.1 s hw hs', g2⟩⟩
/-- An allocation that never fails. -/
def hnewT : DOp → Bool
  | .mbx .. | .al .. | .mkm _ => true
  | _ => false
theorem hnewT_dop {p : DOp} (hp : hnewT p = true) : ∃ j, nameOf p = some j ∧ ∀ (e : Env), ∃ v ob, ∀ h, dop G base e h p = some (v, [(base + j, some ob)]) := by
  cases p <;> first | (cases hp; done) | skip
  case mbx j x => exact ⟨j, rfl, fun e => ⟨_, _, fun h => rfl⟩⟩
  case al j z => exact ⟨j, rfl, fun e => ⟨_, _, fun h => rfl⟩⟩
  case mkm j => exact ⟨j, rfl, fun e => ⟨_, _, fun h => rfl⟩⟩
theorem hnewT_new {p : DOp} (hp : hnewT p = true) : hnew p = true := by
  cases p <;> first | (cases hp; done) | rfl
/-- Behind: any operation (c), and an allocation that never fails and has no guard (i): i may come first. -/
theorem swap_n {c i : DOper} (hi : hnewT (opX i) = true) (hg : ∀ e, wantX i e = true) (hs : sep c i = true) {K : Env → DS → Dd → Prop} {j : Nat} (hj : nameOf (opX i) = some j) (hfr : S.h (base + j) = none) (hlt : base + j < S.nx) (hne : ∀ j', nameOf (opX c) = some j' → j' ≠ j)
    {Pr Pr2 : DS → Prop} (hPi : ∀ S0 ob, S0.h (base + j) = none → Pr2 (S0.put (base + j) (some ob)) → Pr S0) (h : OpX P G base c e S dd fun e1 S1 dd1 => Pr S1 → OpX P G base i e1 S1 dd1 K) :
    OpX P G base i e S dd fun e1 S1 dd1 => OpX P G base c e1 S1 dd1 fun e2 S2 dd2 => Pr2 S2 → K e2 S2 dd2 := by
  obtain ⟨j0, hj0, hdop⟩ := hnewT_dop (G := G) (base := base) hi
  rw [hj] at hj0
  cases hj0
  obtain ⟨v, ob, hv⟩ := hdop e
  have hqi : quiet (opX i) = true := by simp [quiet, hnewT_new hi]
  refine (quiet_iff hqi).2 ⟨v, [(base + j, some ob)], by rw [qe, hg e]; exact hv _, ?_⟩
  have hsep' : sep i c = true := by
    simp only [sep, Bool.and_eq_true] at hs ⊢
    refine ⟨⟨hs.1.2, hs.1.1⟩, ?_⟩
    rw [disj, HasL_iff]
    intro s hs'
    cases hm : memN s (wrX c) with
    | false => rfl
    | true => exact absurd hs' (disj_spec hs.2 s ((memN_iff s _).1 hm))
  refine (opX_updO hsep').2 ?_
  refine opX_mono (opX_frame (ob := ob) (opX_env h) hfr hlt (fun j' hj' hx => hne j' hj' (by omega))) fun e' S' dd' ⟨S0, hS, h0, henv, hK⟩ hP2 => ?_
  obtain ⟨v', ps', g1, g2⟩ := (quiet_iff hqi).1 (hK (hPi S0 ob h0 (by rw [← hS]; exact hP2)))
  rw [qe, hg] at g1
  have hcong : dop G base e' S0.h (opX i) = dop G base e S0.h (opX i) := dop_congr fun s hs' => henv s fun hw => (sep_spec hs).1 s hw (reads_X s hs')
  simp only at g1
  rw [hcong, hv] at g1
  cases g1
  rw [hS]
  exact g2
/-- A reader comes to what its slot holds. -/
def Rech (G : List (List DV)) (base : Nat) (r : DOper) (e : Env) (S : DS) : Prop := ∃ v, qe G base r e S.h = some (v, []) ∧ ∀ s, dstX r = some s → e s = v
def inSl (c : DOper) (sl : List Nat) : Bool := match dstX c with | some s => memN s sl && !memN s (readsX c) | none => false
def nog : DOper → Bool
  | .o .. | .n _ => true
  | _ => false
def nameNe (c i : DOper) : Bool := match nameOf (opX c), nameOf (opX i) with | some j, some j' => !Nat.beq j j' | _, _ => true
def pairOk (c i : DOper) (sl : List Nat) : Bool := sep c i && nameNe c i && (hfree (opX c) || (hread (opX c) && (hfree (opX i) || hread (opX i))) || (hnew (opX c) && hfree (opX i) && sl.isEmpty) || (hnewT (opX i) && nog i && sl.isEmpty) || (hread (opX c) && inSl c sl))
theorem updO_self {c : DOper} {v : DV} (h : ∀ s, dstX c = some s → s ∉ readsX c) (hh : Heap) : qe G base c (updO (dstX c) v e) hh = qe G base c e hh := by
  cases hd : dstX c with
  | none => rfl
  | some s => exact qe_congr fun t ht => upd_ne fun hx => h s hd (hx ▸ ht)
theorem qe_new_ps {x : DOper} (hp : hnew (opX x) = true) {h : Heap} (hd : qe G base x e h = some (d, ps)) : (ps = [] ∨ ∃ j o, nameOf (opX x) = some j ∧ ps = [(base + j, some o)]) ∧ ∀ h', qe G base x e h' = some (d, ps) := by
  rw [qe] at hd
  split at hd
  · rename_i hw
    obtain ⟨j, o, h1, h2⟩ := hnew_ps hp hd
    exact ⟨.inr ⟨j, o, h1, h2⟩, fun h' => by rw [qe, hw]; simp only; rw [hnew_dop hp h' h]; exact hd⟩
  · rename_i hw
    cases hd
    exact ⟨.inl rfl, fun h' => by rw [qe, hw]⟩
theorem free_name {p : DOp} (h : hfree p = true ∨ hread p = true) : nameOf p = none := by
  cases p <;> first | rfl | (rcases h with h | h <;> cases h; done)
/-- Of two operations with nothing between them, the second may come first. -/
theorem swap {c i : DOper} {sl : List Nat} (hp : pairOk c i sl = true) {K : Env → DS → Dd → Prop} {Z : Env → DS → Prop} {Pr Pr1 Pr2 : DS → Prop} (hfr : ∀ j, nameOf (opX i) = some j → S.h (base + j) = none ∧ base + j < S.nx)
    (hP0 : Pr S) (hPn : ∀ j ob, nameOf (opX c) = some j → Pr (S.put (base + j) (some ob))) (hPi : ∀ j, nameOf (opX i) = some j → ∀ S0 ob, S0.h (base + j) = none → Pr2 (S0.put (base + j) (some ob)) → Pr S0)
    (hP12 : nameOf (opX c) = none → ∀ S1, Pr1 S1 → Pr2 S1) (h : OpX P G base c e S dd fun e1 S1 dd1 => Pr S1 → OpX P G base i e1 S1 dd1 K) (hR : inSl c sl = true → ∀ e2 S2 dd2, Pr2 S2 → K e2 S2 dd2 → Rech G base c e2 S2)
    (hZ : (hfree (opX c) = true ∨ hread (opX c) = true) → ∀ v e' S' dd', Pr2 S' → K (updO (dstX c) v e') S' dd' → Z e' S') (hZ0 : sl = [] → ∀ e' S', Z e' S') :
    OpX P G base i e S dd fun e1 S1 dd1 => Pr1 S1 → Z e1 S1 ∧ OpX P G base c e1 S1 dd1 fun e2 S2 dd2 => Pr2 S2 → K e2 S2 dd2 := by
  simp only [pairOk, Bool.and_eq_true, Bool.or_eq_true, List.isEmpty_iff] at hp
  obtain ⟨⟨hsep, hnm⟩, hp⟩ := hp
  have hnm' : ∀ j j', nameOf (opX c) = some j → nameOf (opX i) = some j' → j ≠ j' := by
    intro j j' h1 h2 hj
    simp only [nameNe, h1, h2, beqN, Bool.not_eq_true', decide_eq_false_iff_not] at hnm
    exact hnm hj
  have noH : (hfree (opX c) = true ∨ hread (opX c) = true) → OpX P G base c e S dd fun e1 S1 dd1 => OpX P G base i e1 S1 dd1 K := by
    intro hq
    have hqq : quiet (opX c) = true := by rcases hq with h | h <;> simp [quiet, h]
    obtain ⟨v, ps, h1, h2⟩ := (quiet_iff hqq).1 h
    have hps : ps = [] := by
      rcases hq with hq | hq
      · exact qe_free_ps hq h1
      · exact qe_read_ps hq h1
    subst hps
    exact (quiet_iff hqq).2 ⟨v, [], h1, h2 hP0⟩
  rcases hp with (((hp | hp) | hp) | hp) | hp
  · -- c leaves the heap alone
    obtain ⟨v, h1, h2⟩ := swap_q (.inl hp) hsep (noH (.inl hp))
    have hqq : quiet (opX c) = true := by simp [quiet, hp]
    exact opX_mono h2 fun e' S' dd' ⟨g1, g2⟩ hP => ⟨hZ (.inl hp) v e' S' dd' (hP12 (free_name (.inl hp)) _ hP) g2, (quiet_iff hqq).2 ⟨v, [], by rw [g1, qe_free hp S'.h S.h]; exact h1, fun _ => g2⟩⟩
  · -- both read
    obtain ⟨v, h1, h2⟩ := swap_q (.inr hp.1) hsep (noH (.inr hp.1))
    have hqc : quiet (opX c) = true := by simp [quiet, hp.1]
    have hqi : quiet (opX i) = true := by rcases hp.2 with h | h <;> simp [quiet, h]
    obtain ⟨u, ps, k1, k2, k3⟩ := (quiet_iff hqi).1 h2
    have hps : ps = [] := by
      rcases hp.2 with hq | hq
      · exact qe_free_ps hq k1
      · exact qe_read_ps hq k1
    subst hps
    exact (quiet_iff hqi).2 ⟨u, [], k1, fun hP => ⟨hZ (.inr hp.1) v _ _ _ (hP12 (free_name (.inr hp.1)) _ hP) k3, (quiet_iff hqc).2 ⟨v, [], by rw [k2]; exact h1, fun _ => k3⟩⟩⟩
  · -- c is new, i leaves the heap alone
    obtain ⟨⟨hc, hi⟩, hsl⟩ := hp
    have hqc : quiet (opX c) = true := by simp [quiet, hc]
    have hqi : quiet (opX i) = true := by simp [quiet, hi]
    obtain ⟨v, ps, h1, h2⟩ := (quiet_iff hqc).1 h
    obtain ⟨hps, _⟩ := qe_new_ps hc h1
    have h3 := h2 (by
      rcases hps with rfl | ⟨j', o, h4, rfl⟩
      · exact hP0
      · exact hPn j' o h4)
    obtain ⟨u, qs, k1, k2⟩ := (quiet_iff hqi).1 ((opX_updO hsep).1 h3)
    obtain rfl := qe_free_ps hi k1
    refine (quiet_iff hqi).2 ⟨u, [], by rw [qe_free hi _ (S.puts ps).h]; exact k1, fun _ => ⟨hZ0 hsl _ _, (quiet_iff hqc).2 ⟨v, ps, ?_, fun _ => k2⟩⟩⟩
    rw [← h1]
    exact qe_congr fun s hs => updO_ne fun hx => (sep_spec hsep).2.1 s (by simp only [wrX, List.mem_append]; exact .inl hx) hs
  · -- i is an allocation that never fails
    obtain ⟨⟨hi, hng⟩, hsl⟩ := hp
    obtain ⟨j, hj, _⟩ := hnewT_dop (G := G) (base := base) hi
    have hg : ∀ e, wantX i e = true := by
      cases i <;> first | (cases hng; done) | exact fun _ => rfl
    exact opX_mono (swap_n hi hg hsep hj (hfr j hj).1 (hfr j hj).2 (fun j' hj' => hnm' j' j hj' hj) (hPi j hj) h) fun e1 S1 dd1 h1 _ => ⟨hZ0 hsl _ _, h1⟩
  · -- c is read again
    obtain ⟨v, h1, h2⟩ := swap_q (.inr hp.1) hsep (noH (.inr hp.1))
    have hqc : quiet (opX c) = true := by simp [quiet, hp.1]
    have hin := hp.2
    refine opX_mono h2 fun e' S' dd' ⟨g1, g2⟩ hP => ?_
    have hP2 := hP12 (free_name (.inr hp.1)) _ hP
    refine ⟨hZ (.inr hp.1) v e' S' dd' hP2 g2, ?_⟩
    obtain ⟨v', r1, r2⟩ := hR hin _ _ _ hP2 g2
    unfold inSl at hin
    split at hin
    · rename_i s hs
      simp only [Bool.and_eq_true, Bool.not_eq_true'] at hin
      have hself : ∀ t, dstX c = some t → t ∉ readsX c := by
        intro t ht hm
        rw [hs] at ht
        cases ht
        rw [(memN_iff _ _).2 hm] at hin
        cases hin.2
      rw [updO_self hself] at r1
      have hv : v = v' := by
        have := r2 s hs
        rw [hs] at this
        rw [← this]
        exact upd_same.symm
      subst hv
      exact (quiet_iff hqc).2 ⟨v, [], r1, fun _ => g2⟩
    · cases hin
end Go.Proofs.YtfmicbbflpkdgaaGreatDoor.D
/-
  The D machine, part y: a chain of operations, and how one of them comes to the front.
-/
namespace Go.Proofs.YtfmicbbflpkdgaaGreatDoor.D
open Go.RowKit
variable {P : Program} {G : List (List DV)} {S S' : DS} {base na : Nat} {e e' : Env} {d : DV} {ps : Puts} {dd : Dd}
abbrev CL := List (DOper × List Nat)
def namesC : CL → List Nat
  | [] => []
  | (x, _) :: l => (nameOf (opX x)).toList ++ namesC l
theorem namesC_app : ∀ (l m : CL), namesC (l ++ m) = namesC l ++ namesC m
  | [], m => rfl
  | (x, s) :: l, m => by simp [namesC, namesC_app l m]
/-- The names of the region are there, and those that are still to come are free. -/
def Fr (base na : Nat) (js : List Nat) (S : DS) : Prop := base + na ≤ S.nx ∧ ∀ j, j ∈ js → S.h (base + j) = none
def Chain (P : Program) (G : List (List DV)) (base na : Nat) (all : List DOper) : CL → Env → DS → Dd → (Env → DS → Dd → Prop) → Prop
  | [], e, S, dd, K => K e S dd
  | (x, sl) :: l, e, S, dd, K => OpX P G base x e S dd fun e' S' dd' => Fr base na (namesC l) S' → (∀ r, r ∈ all → inSl r sl = true → Rech G base r e' S') ∧ Chain P G base na all l e' S' dd' K
def backOk (r c : DOper) : Bool := match dstX c with
  | some s => !memN s (readsX r) && (match dstX r with | some t => !Nat.beq s t | none => true)
  | none => true
def StabOk : List DOper → CL → Prop
  | _, [] => True
  | L, c :: pre => (∀ r, r ∈ L → backOk r c.1 = true) ∧ StabOk (c.1 :: L) pre
theorem back_spec {r c : DOper} (h : backOk r c = true) : ∀ s, dstX c = some s → s ∉ readsX r ∧ dstX r ≠ some s := by
  intro s hs
  simp only [backOk, hs, Bool.and_eq_true, Bool.not_eq_true'] at h
  refine ⟨fun hm => (by rw [(memN_iff _ _).2 hm] at h; exact absurd h.1 (by simp)), fun hd => ?_⟩
  rw [hd] at h
  simp only [Nat.beq_refl, Bool.not_true] at h
  cases h.2
theorem back_qe {r c : DOper} (h : backOk r c = true) (v : DV) (hh : Heap) : qe G base r (updO (dstX c) v e) hh = qe G base r e hh := by
  cases hd : dstX c with
  | none => rfl
  | some s => exact qe_congr fun t ht => upd_ne fun hx => (back_spec h s hd).1 (hx ▸ ht)
theorem back_dst {r c : DOper} (h : backOk r c = true) (v : DV) {s : Nat} (hs : dstX r = some s) : updO (dstX c) v e s = e s := by
  cases hd : dstX c with
  | none => rfl
  | some t => exact upd_ne fun hx => (back_spec h t hd).2 (hx ▸ hs)
theorem rech_back {r c : DOper} (h : backOk r c = true) {v : DV} : Rech G base r (updO (dstX c) v e) S ↔ Rech G base r e S := by
  simp only [Rech, back_qe h]
  constructor
  · rintro ⟨u, h1, h2⟩; exact ⟨u, h1, fun s hs => (back_dst h v hs).symm.trans (h2 s hs)⟩
  · rintro ⟨u, h1, h2⟩; exact ⟨u, h1, fun s hs => (back_dst h v hs).trans (h2 s hs)⟩
theorem qe_le {h h' : Heap} (hl : HLe h h') {x : DOper} {r : DV × Puts} (hd : qe G base x e h = some r) : qe G base x e h' = some r := by
  rw [qe] at hd ⊢
  split at hd
  · exact dop_le hl hd
  · exact hd
theorem rech_put {r : DOper} {id : Nat} {ob : DO} (hid : S.h id = none) (h : Rech G base r e S) : Rech G base r e (S.put id (some ob)) := by
  obtain ⟨v, h1, h2⟩ := h
  exact ⟨v, qe_le (put_hle hid) h1, h2⟩
theorem pair_new {c i : DOper} {sl : List Nat} (h : pairOk c i sl = true) (hc : quiet (opX c) = false) : hnewT (opX i) = true ∧ nog i = true := by
  simp only [quiet, Bool.or_eq_false_iff] at hc
  simp only [pairOk, hc.1.1, hc.1.2, hc.2, Bool.false_and, Bool.false_or, Bool.or_false, Bool.and_eq_true] at h
  exact h.2.1
/-- The operation i comes to the front of what is left. -/
theorem pull {all : List DOper} {i : DOper} {sl : List Nat} {post : CL} {K : Env → DS → Dd → Prop} : ∀ (pre : CL) (L : List DOper) (e : Env) (S : DS) (dd : Dd),
    (∀ c, c ∈ pre → pairOk c.1 i sl = true) → (∀ c, c ∈ pre → c.2 ≠ [] → quiet (opX c.1) = false ∧ ∀ r, r ∈ all → inSl r c.2 = true → backOk r i = true) → (sl ≠ [] → StabOk L pre) → (∀ r, r ∈ L → r ∈ all) → (∀ c, c ∈ pre → c.1 ∈ all) →
    (namesC (pre ++ (i, sl) :: post)).Nodup → (∀ j, j ∈ namesC (pre ++ (i, sl) :: post) → j < na) → Fr base na (namesC (pre ++ (i, sl) :: post)) S → Chain P G base na all (pre ++ (i, sl) :: post) e S dd K →
    OpX P G base i e S dd fun e' S' dd' => Fr base na (namesC (pre ++ post)) S' → (∀ r, r ∈ L → inSl r sl = true → Rech G base r e' S') ∧ Chain P G base na all (pre ++ post) e' S' dd' K
  | [], L, e, S, dd, _, _, _, hL, _, _, _, _, h => opX_mono h fun e' S' dd' h1 h2 => ⟨fun r hr hs => (h1 h2).1 r (hL r hr) hs, (h1 h2).2⟩
  | (c, slc) :: pre, L, e, S, dd, hp, hq, hst, hL, hpa, hnd, hlt, hfr, h => by
    have hnames : namesC ((c, slc) :: pre ++ (i, sl) :: post) = (nameOf (opX c)).toList ++ namesC (pre ++ (i, sl) :: post) := rfl
    have hpi := hp (c, slc) (by simp)
    rw [hnames] at hnd hlt hfr
    have hnd2 := (List.nodup_append.1 hnd).2.1
    have hndc := (List.nodup_append.1 hnd).2.2
    have hni : ∀ j, nameOf (opX i) = some j → j ∈ namesC (pre ++ (i, sl) :: post) := fun j hj => by
      rw [namesC_app]; simp [namesC, hj]
    have hmid : ∀ j, j ∈ namesC (pre ++ (i, sl) :: post) → j ∈ namesC (pre ++ post) ∨ nameOf (opX i) = some j := by
      intro j hj
      rw [namesC_app] at hj ⊢
      simp only [namesC, List.mem_append, Option.mem_toList] at hj ⊢
      rcases hj with h | h | h
      · exact .inl (.inl h)
      · exact .inr h
      · exact .inl (.inr h)
    have hin : ∀ j, nameOf (opX i) = some j → j ∉ namesC (pre ++ post) := by
      intro j hj hm
      rw [namesC_app] at hnd2 hm
      simp only [namesC, hj, Option.toList_some, List.singleton_append] at hnd2
      have h1 := List.nodup_append.1 hnd2
      rcases List.mem_append.1 hm with h | h
      · exact h1.2.2 j h j (by simp) rfl
      · exact (List.nodup_cons.1 h1.2.1).1 h
    have hsub : ∀ j, j ∈ namesC (pre ++ post) → j ∈ namesC (pre ++ (i, sl) :: post) := by
      intro j hj
      rw [namesC_app] at hj ⊢
      simp only [namesC, List.mem_append] at hj ⊢
      rcases hj with h | h
      · exact .inl h
      · exact .inr (.inr h)
    have key : OpX P G base c e S dd fun e1 S1 dd1 => Fr base na (namesC (pre ++ (i, sl) :: post)) S1 → OpX P G base i e1 S1 dd1 fun e2 S2 dd2 => Fr base na (namesC (pre ++ post)) S2 →
        (∀ r, r ∈ all → inSl r slc = true → Rech G base r e2 S2) ∧ (∀ r, r ∈ c :: L → inSl r sl = true → Rech G base r e2 S2) ∧ Chain P G base na all (pre ++ post) e2 S2 dd2 K := by
      refine opX_mono h fun e1 S1 dd1 h1 hf1 => ?_
      obtain ⟨h2, h3⟩ := h1 hf1
      have ih := pull pre (c :: L) e1 S1 dd1 (fun c hc => hp c (by simp [hc])) (fun c hc => hq c (by simp [hc])) (fun hne => (hst hne).2)
        (fun r hr => by rcases List.mem_cons.1 hr with rfl | hr; exact hpa (r, slc) (by simp); exact hL r hr) (fun c hc => hpa c (by simp [hc])) hnd2 (fun j hj => hlt j (List.mem_append.2 (.inr hj))) hf1 h3
      by_cases hsl : slc = []
      · subst hsl
        refine opX_mono ih fun e2 S2 dd2 g1 g2 => ⟨fun r _ hs => ?_, g1 g2⟩
        unfold inSl at hs
        split at hs <;> simp [memN] at hs
      · obtain ⟨hcq, hback⟩ := hq (c, slc) (by simp) hsl
        obtain ⟨hnew, hng⟩ := pair_new hpi hcq
        obtain ⟨j, hj, _⟩ := hnewT_dop (G := G) (base := base) hnew
        have hqi : quiet (opX i) = true := by simp [quiet, hnewT_new hnew]
        obtain ⟨v, qs, k1, k2⟩ := (quiet_iff hqi).1 ih
        obtain ⟨hps, _⟩ := qe_new_ps (hnewT_new hnew) k1
        refine (quiet_iff hqi).2 ⟨v, qs, k1, fun hf2 => ⟨fun r hr hs => (rech_back (hback r hr hs)).2 ?_, k2 hf2⟩⟩
        rcases hps with rfl | ⟨j', o, h4, rfl⟩
        · exact h2 r hr hs
        · exact rech_put (hf1.2 j' (hni j' h4)) (h2 r hr hs)
    refine opX_mono (swap (Z := fun e' S' => ∀ r, r ∈ L → inSl r sl = true → Rech G base r e' S') (Pr1 := Fr base na (namesC ((c, slc) :: pre ++ post))) (Pr2 := Fr base na (namesC (pre ++ post))) hpi ?_ ?_ ?_ ?_ ?_ key ?_ ?_ ?_) fun e1 S1 dd1 h1 hf => ?_
    · intro j hj
      have hm := hni j hj
      have hj2 := hlt j (List.mem_append.2 (.inr hm))
      exact ⟨hfr.2 j (List.mem_append.2 (.inr hm)), by have := hfr.1; omega⟩
    · exact ⟨hfr.1, fun j hj => hfr.2 j (List.mem_append.2 (.inr hj))⟩
    · intro j ob hj
      refine ⟨hfr.1, fun j' hj' => ?_⟩
      rw [ds_put, put_ne _ _ (fun hx => hndc j (by simp [hj]) j' hj' (by omega))]
      exact hfr.2 j' (List.mem_append.2 (.inr hj'))
    · intro j hj S0 ob h0 hf
      refine ⟨hf.1, fun j' hj' => ?_⟩
      rcases hmid j' hj' with h | h
      · have := hf.2 j' h
        rwa [ds_put, put_ne _ _ (fun hx => hin j hj (by have : j' = j := by omega
                                                        exact this ▸ h))] at this
      · rw [hj] at h; cases h; exact h0
    · intro hc S1 hf
      refine ⟨hf.1, fun j hj => hf.2 j ?_⟩
      show j ∈ (nameOf (opX c)).toList ++ namesC (pre ++ post)
      simp [hj]
    · intro hs e2 S2 dd2 hP hK
      exact (hK hP).2.1 c (by simp) hs
    · intro _ v e2 S2 dd2 hP hK r hr hs
      have hne : sl ≠ [] := fun h0 => by
        subst h0
        unfold inSl at hs
        split at hs <;> simp [memN] at hs
      exact (rech_back ((hst hne).1 r hr)).1 ((hK hP).2.1 r (by simp [hr]) hs)
    · intro h0 e2 S2 r _ hs
      subst h0
      unfold inSl at hs
      split at hs <;> simp [memN] at hs
    · obtain ⟨g1, g2⟩ := h1 hf
      refine ⟨g1, opX_mono g2 fun e2 S2 dd2 g3 hf2 => ⟨(g3 hf2 hf2).1, (g3 hf2 hf2).2.2⟩⟩
end Go.Proofs.YtfmicbbflpkdgaaGreatDoor.D
/-
  The D machine, part z: regions that draw their order.
-/
namespace Go.Proofs.YtfmicbbflpkdgaaGreatDoor.D
open Go.RowKit
variable {P : Program} {G : List (List DV)} {φ φ' : Phi} {ρ ρ' : Rho} {S S' : DS} {w w' : World}
variable {n0 N base na : Nat} {a : Act} {e e' : Env} {dd : Dd}
def depsAt (ops : Array Oper) (i : Nat) : List Nat := match ops[i]? with
  | some o => (o.after.toList.filter (Region.binds .any)).map (·.on)
  | none => []
def ancOf (l : List RdI) (k : Nat) : List Nat := match l with
  | [] => []
  | it :: l => match Nat.beq it.idx k with | true => it.anc | false => ancOf l k
def subN (l m : List Nat) : Bool := HasL (fun x => memN x m) l
def depsBefore (ops : Array Oper) : List Nat → List RdI → Bool
  | _, [] => true
  | done, it :: l => subN (depsAt ops it.idx) done && depsBefore ops (it.idx :: done) l
def ancOk (ops : Array Oper) (all : List RdI) : List RdI → Bool
  | [] => true
  | it :: l => HasL (fun x => memN x (depsAt ops it.idx) || (!HasL (fun k => !(Nat.blt k it.idx && memN x (ancOf all k))) (depsAt ops it.idx))) it.anc && ancOk ops all l
def pairR (all : List RdI) (c i : RdI) : Bool := (backOk c.x i.x || i.fin) && (i.sl.isEmpty || !c.fin) && (memN c.idx i.anc || (pairOk c.x i.x i.sl && (c.sl.isEmpty || (!quiet (opX c.x) && HasL (fun r => !inSl r.x c.sl || backOk r.x i.x) all))))
def pairsOk (all : List RdI) : List RdI → Bool
  | [] => true
  | c :: l => HasL (fun i => pairR all c i) l && pairsOk all l
def idxs : List RdI → List Nat
  | [] => []
  | it :: l => it.idx :: idxs l
def opsOf : List RdI → List DOper
  | [] => []
  | it :: l => it.x :: opsOf l
def rdOk (P : Program) (G : List (List DV)) (N : Nat) (ops : Array Oper) (na : Nat) (l : List RdI) : Bool :=
  Nat.beq (lenN l) ops.size && subN (List.range ops.size) (idxs l) && nodupN (idxs l) && HasL (fun it => match ops[it.idx]? with | some o => operOk P G N ops o it.x | none => false) l && namesOk na (opsOf l) && depsBefore ops [] l && ancOk ops l l && pairsOk l l
theorem idxs_eq (l : List RdI) : idxs l = l.map (·.idx) := by
  induction l with
  | nil => rfl
  | cons x l ih => simp [idxs, ih]
theorem opsOf_eq (l : List RdI) : opsOf l = l.map (·.x) := by
  induction l with
  | nil => rfl
  | cons x l ih => simp [opsOf, ih]
theorem subN_iff {l m : List Nat} : subN l m = true ↔ ∀ x, x ∈ l → x ∈ m := by
  simp only [subN, HasL_iff, memN_iff]
theorem pairs_pw {all : List RdI} : ∀ {l : List RdI}, pairsOk all l = true → l.Pairwise (fun c i => pairR all c i = true)
  | [], _ => List.Pairwise.nil
  | c :: l, h => by
    simp only [pairsOk, Bool.and_eq_true, HasL_iff] at h
    exact List.Pairwise.cons h.1 (pairs_pw h.2)
theorem ancOf_mem {l : List RdI} (hnd : (l.map (·.idx)).Nodup) {it : RdI} (h : it ∈ l) : ancOf l it.idx = it.anc := by
  induction l with
  | nil => simp at h
  | cons x l ih =>
    simp only [List.map_cons, List.nodup_cons] at hnd
    simp only [ancOf, beqN]
    by_cases hx : x.idx = it.idx
    · rw [decide_eq_true hx]
      rcases List.mem_cons.1 h with rfl | h
      · rfl
      · exact absurd (by rw [hx]; exact List.mem_map_of_mem h) hnd.1
    · rw [decide_eq_false hx]
      rcases List.mem_cons.1 h with rfl | h
      · exact absurd rfl hx
      · exact ih hnd.2 h
theorem ancOf_none {l : List RdI} {k : Nat} (h : ∀ it, it ∈ l → it.idx ≠ k) : ancOf l k = [] := by
  induction l with
  | nil => rfl
  | cons x l ih =>
    simp only [ancOf, beqN, decide_eq_false (h x (by simp))]
    exact ih fun it hit => h it (by simp [hit])
theorem ancOk_mem {ops : Array Oper} {all : List RdI} : ∀ {l : List RdI}, ancOk ops all l = true → ∀ it, it ∈ l → ∀ x, x ∈ it.anc → x ∈ depsAt ops it.idx ∨ ∃ k, k ∈ depsAt ops it.idx ∧ k < it.idx ∧ x ∈ ancOf all k
  | [], _, it, hit => by simp at hit
  | y :: l, h, it, hit => by
    simp only [ancOk, Bool.and_eq_true] at h
    rcases List.mem_cons.1 hit with rfl | hit
    · intro x hx
      have h1 := (HasL_iff _ _).1 h.1 x hx
      simp only [Bool.or_eq_true, memN_iff] at h1
      rcases h1 with h1 | h1
      · exact .inl h1
      · right
        rw [Bool.not_eq_true', ← Bool.not_eq_true, HasL_iff] at h1
        obtain ⟨k, hk⟩ := Classical.not_forall.1 h1
        obtain ⟨hk1, hk2⟩ := Classical.not_imp.1 hk
        simp only [Bool.not_eq_true', Bool.and_eq_false_iff, not_or, Bool.not_eq_false, bltN, decide_eq_true_eq, memN_iff] at hk2
        exact ⟨k, hk1, hk2.1, hk2.2⟩
    · exact ancOk_mem h.2 it hit
/-- What must come before has come, when what it hangs on has. -/
theorem anc_done {ops : Array Oper} {l : List RdI} (hnd : (l.map (·.idx)).Nodup) (ha : ancOk ops l l = true) {T : Nat → Prop} (hT : ∀ k, T k → ∀ p, p ∈ depsAt ops k → T p) :
    ∀ (n : Nat) (it : RdI), it ∈ l → it.idx ≤ n → (∀ p, p ∈ depsAt ops it.idx → T p) → ∀ x, x ∈ it.anc → T x := by
  intro n
  induction n with
  | zero =>
    intro it hit hn hd x hx
    rcases ancOk_mem ha it hit x hx with h | ⟨k, _, h2, _⟩
    · exact hd x h
    · omega
  | succ n ih =>
    intro it hit hn hd x hx
    rcases ancOk_mem ha it hit x hx with h | ⟨k, h1, h2, h3⟩
    · exact hd x h
    · by_cases hk : ∃ it', it' ∈ l ∧ it'.idx = k
      · obtain ⟨it', h4, rfl⟩ := hk
        rw [ancOf_mem hnd h4] at h3
        exact ih it' h4 (by omega) (hT _ (hd _ h1)) x h3
      · rw [ancOf_none (fun it' h4 h5 => hk ⟨it', h4, h5⟩)] at h3
        simp at h3
def clOf (l : List RdI) : CL := l.map fun it => (it.x, it.sl)
theorem namesC_clOf (l : List RdI) : namesC (clOf l) = namesX (opsOf l) := by
  induction l with
  | nil => rfl
  | cons x l ih => show _ ++ namesC (clOf l) = namesX (x.x :: opsOf l); rw [namesX_cons, ih]
theorem depsBefore_spec {ops : Array Oper} : ∀ {l : List RdI} {done : List Nat}, depsBefore ops done l = true → ∀ l1 it l2, l = l1 ++ it :: l2 → ∀ p, p ∈ depsAt ops it.idx → p ∈ done ∨ ∃ it', it' ∈ l1 ∧ it'.idx = p
  | [], _, _, l1, it, l2, h => by cases l1 <;> cases h
  | y :: l, done, hd, l1, it, l2, h => by
    simp only [depsBefore, Bool.and_eq_true] at hd
    intro p hp
    cases l1 with
    | nil =>
      cases h
      exact .inl (subN_iff.1 hd.1 p hp)
    | cons z l1 =>
      simp only [List.cons_append, List.cons.injEq] at h
      obtain ⟨rfl, rfl⟩ := h
      rcases depsBefore_spec hd.2 l1 it l2 rfl p hp with h | ⟨it', h1, h2⟩
      · rcases List.mem_cons.1 h with rfl | h
        · exact .inr ⟨y, by simp, rfl⟩
        · exact .inl h
      · exact .inr ⟨it', by simp [h1], h2⟩
theorem stab_of : ∀ (pre : List RdI) (L : List DOper), (∀ r, r ∈ L → ∀ c, c ∈ pre → backOk r c.x = true) → pre.Pairwise (fun c i => backOk c.x i.x = true) → StabOk L (clOf pre)
  | [], L, _, _ => trivial
  | c :: pre, L, h1, h2 => by
    obtain ⟨h3, h4⟩ := List.pairwise_cons.1 h2
    refine ⟨fun r hr => h1 r hr c (by simp), stab_of pre (c.x :: L) (fun r hr c' hc' => ?_) h4⟩
    rcases List.mem_cons.1 hr with rfl | hr
    · exact h3 c' hc'
    · exact h1 r hr c' (by simp [hc'])
structure RdInv (ops : Array Oper) (l rem : List RdI) (listed : Array Bool) : Prop where
  sub : rem.Sublist l
  mem : ∀ it, it ∈ l → (it ∈ rem ↔ listed.getD it.idx true = false)
  size : listed.size = ops.size
  closed : ∀ k, listed.getD k false = true → ∀ p, p ∈ depsAt ops k → listed.getD p false = true
structure RdGood (P : Program) (G : List (List DV)) (N : Nat) (ops : Array Oper) (na : Nat) (l : List RdI) : Prop where
  len : l.length = ops.size
  all : ∀ i, i < ops.size → ∃ it, it ∈ l ∧ it.idx = i
  nodup : (l.map (·.idx)).Nodup
  ok : ∀ it, it ∈ l → ∃ o, ops[it.idx]? = some o ∧ operOk P G N ops o it.x = true
  names : (namesX (opsOf l)).Nodup
  lt : ∀ j, j ∈ namesX (opsOf l) → j < na
  deps : depsBefore ops [] l = true
  anc : ancOk ops l l = true
  pairs : l.Pairwise fun c i => pairR l c i = true
theorem rdOk_spec {ops : Array Oper} {l : List RdI} (h : rdOk P G N ops na l = true) : RdGood P G N ops na l := by
  simp only [rdOk, Bool.and_eq_true, beqN, decide_eq_true_eq, lenN_eq, HasL_iff] at h
  obtain ⟨⟨⟨⟨⟨⟨⟨h1, h2⟩, h3⟩, h4⟩, h5⟩, h6⟩, h7⟩, h8⟩ := h
  obtain ⟨h9, h10⟩ := namesOk_spec h5
  refine ⟨h1, fun i hi => ?_, by rw [← idxs_eq]; exact (nodupN_iff _).1 h3, fun it hit => ?_, h10, h9, h6, h7, pairs_pw h8⟩
  · have := subN_iff.1 h2 i (by simpa using hi)
    rw [idxs_eq] at this
    obtain ⟨it, g1, g2⟩ := List.mem_map.1 this
    exact ⟨it, g1, g2⟩
  · have := h4 it hit
    split at this
    · rename_i o ho; exact ⟨o, ho, this⟩
    · cases this
theorem mem_deps {ops : Array Oper} {i : Nat} {listed : Array Bool} (h : i ∈ Region.ready .any ops listed) : i < ops.size ∧ listed.getD i true = false ∧ ∀ p, p ∈ depsAt ops i → listed.getD p false = true := by
  simp only [Region.ready, List.mem_filter, List.mem_range, Bool.and_eq_true, Bool.not_eq_true'] at h
  obtain ⟨h1, h2, h3⟩ := h
  refine ⟨h1, h2, fun p hp => ?_⟩
  unfold depsAt at hp
  rw [Array.getElem?_eq_getElem h1] at hp h3
  simp only [Option.map_some, Option.getD_some, Array.all_eq_true_iff_forall_mem, Bool.or_eq_true, Bool.not_eq_true'] at h3
  obtain ⟨ed, h4, rfl⟩ := List.mem_map.1 hp
  obtain ⟨h5, h6⟩ := List.mem_filter.1 h4
  rcases h3 ed (by simpa using h5) with h7 | h7
  · rw [h6] at h7; cases h7
  · exact h7
theorem ready_of {ops : Array Oper} {i : Nat} {listed : Array Bool} (h1 : i < ops.size) (h2 : listed.getD i true = false) (h3 : ∀ p, p ∈ depsAt ops i → listed.getD p false = true) : i ∈ Region.ready .any ops listed := by
  simp only [Region.ready, List.mem_filter, List.mem_range, Bool.and_eq_true, Bool.not_eq_true']
  refine ⟨h1, h2, ?_⟩
  unfold depsAt at h3
  rw [Array.getElem?_eq_getElem h1] at h3 ⊢
  simp only [Option.map_some, Option.getD_some, Array.all_eq_true_iff_forall_mem, Bool.or_eq_true, Bool.not_eq_true']
  intro ed hed
  cases hb : Region.binds .any ed with
  | false => exact .inl rfl
  | true => exact .inr (h3 _ (List.mem_map.2 ⟨ed, List.mem_filter.2 ⟨by simpa using hed, hb⟩, rfl⟩))
theorem getD_tf {listed : Array Bool} {i : Nat} (h : i < listed.size) (b c : Bool) : listed.getD i b = listed.getD i c := by
  simp [Array.getD_eq_getD_getElem?, h]
theorem RdInv.next {ops : Array Oper} {l pre post : List RdI} {it : RdI} {listed : Array Bool} (hg : (l.map (·.idx)).Nodup) (h : RdInv ops l (pre ++ it :: post) listed) (hlt : it.idx < ops.size) (hd : ∀ p, p ∈ depsAt ops it.idx → listed.getD p false = true) :
    RdInv ops l (pre ++ post) (listed.setIfInBounds it.idx true) := by
  have hsub : (pre ++ post).Sublist (pre ++ it :: post) := List.Sublist.append_left (List.sublist_cons_self _ _) _
  have hnd : ((pre ++ it :: post).map (·.idx)).Nodup := (h.sub.map _).nodup hg
  refine ⟨hsub.trans h.sub, fun it' hit' => ?_, by simp [h.size], ?_⟩
  · by_cases hx : it'.idx = it.idx
    · have hsame : (listed.setIfInBounds it.idx true).getD it'.idx true = true := by
        rw [hx]; simp [Array.getD_eq_getD_getElem?, h.size, hlt]
      rw [hsame]
      simp only [Bool.true_eq_false, iff_false]
      intro hm
      rw [List.map_append, List.map_cons] at hnd
      have h1 := List.nodup_append.1 hnd
      rcases List.mem_append.1 hm with h2 | h2
      · exact h1.2.2 it'.idx (List.mem_map_of_mem h2) it.idx (by simp) hx
      · exact (List.nodup_cons.1 h1.2.1).1 (by rw [← hx]; exact List.mem_map_of_mem h2)
    · have hne : (listed.setIfInBounds it.idx true).getD it'.idx true = listed.getD it'.idx true := by
        simp [Array.getD_eq_getD_getElem?, Ne.symm hx]
      rw [hne, ← h.mem it' hit']
      simp only [List.mem_append, List.mem_cons]
      constructor
      · rintro (h1 | h1)
        · exact .inl h1
        · exact .inr (.inr h1)
      · rintro (h1 | rfl | h1)
        · exact .inl h1
        · exact absurd rfl hx
        · exact .inr h1
  · intro k hk p hp
    have hup : ∀ q, listed.getD q false = true → (listed.setIfInBounds it.idx true).getD q false = true := fun q hq => getD_set_true hq
    by_cases hx : k = it.idx
    · subst hx; exact hup p (hd p hp)
    · refine hup p (h.closed k ?_ p hp)
      simpa [Array.getD_eq_getD_getElem?, Array.getElem?_setIfInBounds, Ne.symm hx] using hk
theorem namesX_sub {l m : List DOper} (h : l.Sublist m) : (namesX l).Sublist (namesX m) := by
  induction h with
  | slnil => exact List.Sublist.slnil
  | cons x _ ih => rw [namesX_cons]; exact ih.trans (List.sublist_append_right _ _)
  | cons_cons x _ ih => rw [namesX_cons, namesX_cons]; exact List.Sublist.append (List.Sublist.refl _) ih
theorem opsOf_sub {l m : List RdI} (h : l.Sublist m) : (opsOf l).Sublist (opsOf m) := by rw [opsOf_eq, opsOf_eq]; exact h.map _
theorem clOf_app (l m : List RdI) : clOf (l ++ m) = clOf l ++ clOf m := by simp [clOf]
/-- Whatever order is drawn, the chain is gone through. -/
theorem rd_steps {ops : Array Oper} {l : List RdI} (hg : RdGood P G N ops na l) {K : Env → DS → Dd → Prop} (hn0 : n0 ≤ base) : ∀ (fuel t : Nat) (listed : Array Bool) (rem : List RdI) (e : Env) (S : DS) (dd : Dd) (φ : Phi) (ρ : Rho) (a : Act) (w : World),
    RdInv ops l rem listed → rem.length ≤ fuel → Sim G n0 N e S dd φ ρ a w → base + na ≤ S.nx → (∀ j, j ∈ namesX (opsOf rem) → ρ (base + j) = none) → Chain P G base na (opsOf l) (clOf rem) e S dd K → ∀ (b : Frame) (kk : List Item) (cs : List Frame),
    ∃ a' w' e' S' dd' φ' ρ', K e' S' dd' ∧ Sim G n0 N e' S' dd' φ' ρ' a' w' ∧ Trans n0 φ ρ S w φ' ρ' S' w' ∧ Steps P (lone (b.at a (.inRegion ops (Region.linearise.go .any ops fuel t listed []) :: kk)) cs w) (lone (b.at a' kk) cs w') := by
  have done : ∀ (e : Env) (S : DS) (dd : Dd) (φ : Phi) (ρ : Rho) (a : Act) (w : World), Sim G n0 N e S dd φ ρ a w → Chain P G base na (opsOf l) (clOf []) e S dd K → ∀ (b : Frame) (kk : List Item) (cs : List Frame),
      ∃ a' w' e' S' dd' φ' ρ', K e' S' dd' ∧ Sim G n0 N e' S' dd' φ' ρ' a' w' ∧ Trans n0 φ ρ S w φ' ρ' S' w' ∧ Steps P (lone (b.at a (.inRegion ops [] :: kk)) cs w) (lone (b.at a' kk) cs w') :=
    fun e S dd φ ρ a w hs hc b kk cs => ⟨a, w, e, S, dd, φ, ρ, hc, hs, Trans.refl .., .one step_region_end⟩
  intro fuel
  induction fuel with
  | zero =>
    intro t listed rem e S dd φ ρ a w hi hl hs hnx hfr hc b kk cs
    obtain rfl : rem = [] := List.eq_nil_of_length_eq_zero (by omega)
    exact done e S dd φ ρ a w hs hc b kk cs
  | succ fuel ih =>
    intro t listed rem e S dd φ ρ a w hi hl hs hnx hfr hc b kk cs
    have hgo : Region.linearise.go .any ops (fuel + 1) t listed [] = match (Region.ready .any ops listed)[t % (Region.ready .any ops listed).length]? with
      | some i => i :: Region.linearise.go .any ops fuel (t / (Region.ready .any ops listed).length) (listed.setIfInBounds i true) []
      | none => [] := by
      simp only [Region.linearise.go]
      change (match (Region.ready .any ops listed)[t % (Region.ready .any ops listed).length]? with
        | some i => Region.linearise.go .any ops fuel (t / (Region.ready .any ops listed).length) (listed.setIfInBounds i true) [i]
        | none => [].reverse) = _
      cases (Region.ready .any ops listed)[t % (Region.ready .any ops listed).length]? with
      | none => rfl
      | some i => simp only; rw [linearise_go_acc]; rfl
    rw [hgo]
    cases hr : (Region.ready .any ops listed)[t % (Region.ready .any ops listed).length]? with
    | none =>
      have hnil : Region.ready .any ops listed = [] := by
        cases hrr : Region.ready .any ops listed with
        | nil => rfl
        | cons x xs =>
          rw [hrr] at hr
          have hlt : t % (x :: xs).length < (x :: xs).length := Nat.mod_lt _ (by simp)
          rw [List.getElem?_eq_getElem hlt] at hr
          cases hr
      cases rem with
      | nil => exact done e S dd φ ρ a w hs hc b kk cs
      | cons it rem =>
        exfalso
        have hit : it ∈ l := hi.sub.subset (by simp)
        obtain ⟨o, ho, _⟩ := hg.ok it hit
        have hlt : it.idx < ops.size := (Array.getElem?_eq_some_iff.1 ho).1
        have hun := (hi.mem it hit).1 (by simp)
        obtain ⟨l1, l2, hl12⟩ := List.append_of_mem hit
        have hdep : ∀ p, p ∈ depsAt ops it.idx → listed.getD p false = true := by
          intro p hp
          rcases depsBefore_spec hg.deps l1 it l2 hl12 p hp with h | ⟨it', h1, h2⟩
          · simp at h
          · have hit' : it' ∈ l := by rw [hl12]; simp [h1]
            obtain ⟨o', ho', _⟩ := hg.ok it' hit'
            have hlt' : it'.idx < listed.size := by rw [hi.size]; exact (Array.getElem?_eq_some_iff.1 ho').1
            rw [← h2, getD_tf hlt' false true]
            cases hv : listed.getD it'.idx true with
            | true => rfl
            | false =>
              exfalso
              have hm := (hi.mem it' hit').2 hv
              have hndl : l.Nodup := (List.pairwise_map.1 hg.nodup).imp fun h heq => h (by rw [heq])
              have hsub := hi.sub
              rw [hl12] at hsub hndl
              have hnd1 := List.nodup_append.1 hndl
              have hn1 : it ∉ l1 := fun h => hnd1.2.2 it h it (by simp) rfl
              have h3 : (it :: rem).Sublist (it :: l2) := by
                rcases List.sublist_append_iff.1 hsub with ⟨r1, r2, h4, h5, h6⟩
                cases r1 with
                | nil => simp only [List.nil_append] at h4; rw [h4]; exact h6
                | cons z r1 =>
                  simp only [List.cons_append, List.cons.injEq] at h4
                  obtain ⟨rfl, _⟩ := h4
                  exact absurd (h5.subset (by simp)) hn1
              have h7 := h3.subset hm
              exact hnd1.2.2 it' h1 it' h7 rfl
        have := ready_of hlt hun hdep
        rw [hnil] at this
        simp at this
    | some i =>
      obtain ⟨h1, h2, h3⟩ := mem_deps (List.mem_of_getElem? hr)
      obtain ⟨it, hit, rfl⟩ := hg.all i h1
      obtain ⟨pre, post, rfl⟩ := List.append_of_mem ((hi.mem it hit).2 h2)
      have hpw := List.Pairwise.sublist hi.sub hg.pairs
      have hpw1 := List.pairwise_append.1 hpw
      have hback : it.sl ≠ [] → pre.Pairwise (fun c i => backOk c.x i.x = true) := fun hne => by
        have hfin : ∀ c, c ∈ pre → c.fin = false := fun c hc => by
          have h4 := hpw1.2.2 c hc it (by simp)
          simp only [pairR, Bool.and_eq_true, Bool.or_eq_true, List.isEmpty_iff, Bool.not_eq_true'] at h4
          rcases h4.1.2 with h5 | h5
          · exact absurd h5 hne
          · exact h5
        refine List.Pairwise.imp_of_mem (fun {x y} _ hy h => ?_) hpw1.1
        simp only [pairR, Bool.and_eq_true, Bool.or_eq_true] at h
        rcases h.1.1 with h5 | h5
        · exact h5
        · rw [hfin y hy] at h5; cases h5
      have hprem : ∀ c, c ∈ pre → c ∈ l := fun c hc => hi.sub.subset (by simp [hc])
      have hpair : ∀ c, c ∈ pre → pairOk c.x it.x it.sl = true ∧ (c.sl ≠ [] → quiet (opX c.x) = false ∧ ∀ r, r ∈ l → inSl r.x c.sl = true → backOk r.x it.x = true) := by
        intro c hc
        have h4 := hpw1.2.2 c hc it (by simp)
        simp only [pairR, Bool.and_eq_true, Bool.or_eq_true, memN_iff, List.isEmpty_iff, Bool.not_eq_true', HasL_iff] at h4
        rcases h4.2 with h5 | ⟨h5, h6⟩
        · exfalso
          have h6 := anc_done (T := fun k => listed.getD k false = true) hg.nodup hg.anc hi.closed it.idx it hit (Nat.le_refl _) h3 _ h5
          have h7 := (hi.mem c (hprem c hc)).1 (by simp [hc])
          obtain ⟨o', ho', _⟩ := hg.ok c (hprem c hc)
          rw [getD_tf (by rw [hi.size]; exact (Array.getElem?_eq_some_iff.1 ho').1) true false, h6] at h7
          cases h7
        · refine ⟨h5, fun hne => ?_⟩
          rcases h6 with h6 | ⟨h6, h7⟩
          · exact absurd h6 hne
          · refine ⟨h6, fun r hr hs => ?_⟩
            rcases h7 r hr with h8 | h8
            · rw [hs] at h8; cases h8
            · exact h8
      have hnames : namesC (clOf pre ++ (it.x, it.sl) :: clOf post) = namesX (opsOf (pre ++ it :: post)) := by
        rw [← namesC_clOf, clOf_app]; rfl
      have hsubn := namesX_sub (opsOf_sub hi.sub)
      have hfrd : Fr base na (namesC (clOf pre ++ (it.x, it.sl) :: clOf post)) S := by
        refine ⟨hnx, fun j hj => ?_⟩
        rw [hnames] at hj
        cases ho : S.h (base + j) with
        | none => rfl
        | some ob =>
          obtain ⟨p, hp, _⟩ := hs.sr.heap _ _ ho
          rw [hfr j hj] at hp
          cases hp
      have hpl := pull (all := opsOf l) (i := it.x) (sl := it.sl) (post := clOf post) (clOf pre) [] e S dd
        (fun c hc => by obtain ⟨c', h4, rfl⟩ := List.mem_map.1 hc; exact (hpair c' h4).1)
        (fun c hc hne => by
          obtain ⟨c', h4, rfl⟩ := List.mem_map.1 hc
          obtain ⟨h5, h6⟩ := (hpair c' h4).2 hne
          refine ⟨h5, fun r hr hs => ?_⟩
          rw [opsOf_eq] at hr
          obtain ⟨r', h7, rfl⟩ := List.mem_map.1 hr
          exact h6 r' h7 hs)
        (fun hne => stab_of pre [] (by simp) (hback hne)) (by simp)
        (fun c hc => by obtain ⟨c', h4, rfl⟩ := List.mem_map.1 hc; rw [opsOf_eq]; exact List.mem_map_of_mem (hprem c' h4))
        (by rw [hnames]; exact hsubn.nodup hg.names) (fun j hj => by rw [hnames] at hj; exact hg.lt j (hsubn.subset hj)) hfrd (by rw [clOf_app] at hc; exact hc)
      obtain ⟨o, ho, hok⟩ := hg.ok it hit
      have hin : ∀ j, nameOf (opX it.x) = some j → j ∈ namesX (opsOf (pre ++ it :: post)) := fun j hj => by
        rw [← hnames, namesC_app]; simp [namesC, hj]
      obtain ⟨a1, w1, e1, S1, dd1, φ1, ρ1, k1, k2, k3, k4, k5⟩ := opX_sound hs ho hok hn0 (fun j hj => ⟨hfr j (hin j hj), by have := hg.lt j (hsubn.subset (hin j hj)); omega⟩) hpl b kk cs (Region.linearise.go .any ops fuel (t / (Region.ready .any ops listed).length) (listed.setIfInBounds it.idx true) [])
      have hi' := hi.next hg.nodup h1 h3
      have hnd := hsubn.nodup hg.names
      have hfr' : ∀ j, j ∈ namesX (opsOf (pre ++ post)) → ρ1 (base + j) = none := by
        intro j hj
        have hj' : j ∈ namesX (opsOf (pre ++ it :: post)) := (namesX_sub (opsOf_sub (List.Sublist.append_left (List.sublist_cons_self _ _) _))).subset hj
        rw [k4 (base + j) (by have := hg.lt j (hsubn.subset hj'); omega) (fun j' hj2 heq => ?_)]
        · exact hfr j hj'
        · have : j' = j := by omega
          subst this
          rw [← hnames, namesC_app] at hnd
          simp only [namesC, hj2, Option.toList_some, List.singleton_append] at hnd
          have h6 := List.nodup_append.1 hnd
          rw [← namesC_clOf, clOf_app, namesC_app] at hj
          rcases List.mem_append.1 hj with h7 | h7
          · exact h6.2.2 j' h7 j' (by simp) rfl
          · exact (List.nodup_cons.1 h6.2.1).1 h7
      have hnx' : base + na ≤ S1.nx := Nat.le_trans hnx k3.nx
      have hk1 := (k1 ⟨hnx', fun j hj => by
        rw [← clOf_app, namesC_clOf] at hj
        cases ho1 : S1.h (base + j) with
        | none => rfl
        | some ob =>
          obtain ⟨p, hp, _⟩ := k2.sr.heap _ _ ho1
          rw [hfr' j hj] at hp
          cases hp⟩).2
      obtain ⟨a', w', e', S', dd', φ', ρ', g1, g2, g3, g4⟩ := ih (t / (Region.ready .any ops listed).length) _ (pre ++ post) e1 S1 dd1 φ1 ρ1 a1 w1 hi' (by simp at hl ⊢; omega) k2 hnx' hfr' (by rw [clOf_app]; exact hk1) b kk cs
      exact ⟨a', w', e', S', dd', φ', ρ', g1, g2, k3.trans g3, Steps.trans k5 g4⟩
end Go.Proofs.YtfmicbbflpkdgaaGreatDoor.D
/-
  The D machine, part A: the rule of a region that draws its order.
-/
namespace Go.Proofs.YtfmicbbflpkdgaaGreatDoor.D
open Go.RowKit
variable {P : Program} {G : List (List DV)} {φ φ' : Phi} {ρ ρ' : Rho} {S S' : DS} {w w' : World}
variable {n0 N base na : Nat} {a : Act} {e e' : Env} {dd : Dd} {k : List It} {Q : Env → DS → Dd → Prop}
theorem chk_rd {rd : RdChk} {c : Code} {l : List RdI} (h : chkC P G rd N c (.rd na l) = true) : ∃ id ops, c = .region id ops true ∧ rd ops na l = true := by
  cases c
  case region id ops d =>
    cases d <;> simp only [chkC] at h <;> first | exact ⟨_, _, rfl, h⟩ | (cases h; done)
  all_goals (simp only [chkC] at h; cases h; done)
theorem Good.rd (hm : P.follows .mixedOrders = true) {l : List RdI} (h : Chain P G S.nx na (opsOf l) (clOf l) e ⟨S.h, S.nx + na⟩ dd fun e' S' dd' => Good P G (rdOk P G N) N k Q e' S' dd') : Good P G (rdOk P G N) N (.c (.rd na l) :: k) Q e S dd := by
  intro n0 φ ρ a w kk ht hs _ b cs
  cases ht with
  | items h' => cases h' with
    | cons h1 t => cases h1 with
      | code c dc hc =>
        obtain ⟨id, ops, rfl, h2⟩ := chk_rd hc
        have hg := rdOk_spec h2
        have hs2 : Sim G n0 N e ⟨S.h, S.nx + na⟩ dd φ ρ a { w with drawn := w.drawn + 1 } := ⟨(hs.sr.bump na).drewN _, hs.er, hs.size, hs.defs, Nat.le_trans hs.nx (Nat.le_add_right ..)⟩
        have hinv : RdInv ops l l (Array.replicate ops.size false) := by
          refine ⟨List.Sublist.refl _, fun it hit => ?_, by simp, fun k hk => ?_⟩
          · obtain ⟨o, ho, _⟩ := hg.ok it hit
            have hlt : it.idx < ops.size := (Array.getElem?_eq_some_iff.1 ho).1
            simp [hit, Array.getD_eq_getD_getElem?, hlt]
          · exfalso
            rw [Array.getD_eq_getD_getElem?, Array.getElem?_replicate] at hk
            split at hk <;> cases hk
        obtain ⟨a1, w1, e1, S1, dd1, φ1, ρ1, k1, k2, k3, k4⟩ := rd_steps (n0 := n0) (base := S.nx) hg hs.nx ops.size (w.tape w.drawn (.order b.fn id)) _ l e ⟨S.h, S.nx + na⟩ dd φ ρ a _ hinv (by rw [hg.len]; exact Nat.le_refl _) hs2 (Nat.le_refl _) (fun j _ => by
          cases hr : ρ (S.nx + j) with
          | none => rfl
          | some p => have := (hs.sr.dom _ _ hr).1; omega) h b _ cs
        obtain ⟨a', w', todo, e', S', dd', φ', ρ', g1, g2, g3, g4⟩ := k1 n0 φ1 ρ1 a1 w1 _ (.items t) k2 (fresh_items t n0 ρ1 S1) b cs
        refine ⟨a', w', todo, e', S', dd', φ', ρ', g1, g2, (((Trans.bump n0 na).trans (Trans.drewN n0 _ (Nat.le_add_right _ _))).trans k3).trans g3, ?_⟩
        have hsch : Region.schedule (P.follows .mixedOrders) ops (w.tape w.drawn (.order b.fn id)) = Region.linearise.go .any ops ops.size (w.tape w.drawn (.order b.fn id)) (Array.replicate ops.size false) [] := by
          simp only [Region.schedule, hm, Bool.true_or, if_true]
          rfl
        refine .head step_region_draw ?_
        rw [hsch]
        exact Steps.trans k4 g4
end Go.Proofs.YtfmicbbflpkdgaaGreatDoor.D
