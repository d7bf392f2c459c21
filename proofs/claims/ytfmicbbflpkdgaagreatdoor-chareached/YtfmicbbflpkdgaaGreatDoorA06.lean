/-
  The D machine, part b: tries, and the interpreter that the kernel runs.
-/
import Derived.Test.YtfmicbbflpkdgaaGreatDoorA01
import Derived.Test.YtfmicbbflpkdgaaGreatDoorA05
set_option linter.unusedVariables false
set_option linter.unusedSimpArgs false
namespace Go.Proofs.YtfmicbbflpkdgaaGreatDoor.D
inductive Tr (α : Type) where
  | lf
  | nd (l : Tr α) (v : Option α) (r : Tr α)
def Tr.get {α : Type} : Tr α → Nat → Option α
  | .lf, _ => none
  | .nd l v r, i => match i with
    | 0 => v
    | Nat.succ j => match Nat.beq (Nat.mod j 2) 0 with
      | true => l.get (Nat.div j 2)
      | false => r.get (Nat.div j 2)
def Tr.setF {α : Type} : Nat → Tr α → Nat → Option α → Tr α
  | 0, t, _, _ => t
  | Nat.succ f, t, i, x => match t with
    | .lf => match i with
      | 0 => .nd .lf x .lf
      | Nat.succ j => match Nat.beq (Nat.mod j 2) 0 with
        | true => .nd (Tr.setF f .lf (Nat.div j 2) x) none .lf
        | false => .nd .lf none (Tr.setF f .lf (Nat.div j 2) x)
    | .nd l v r => match i with
      | 0 => .nd l x r
      | Nat.succ j => match Nat.beq (Nat.mod j 2) 0 with
        | true => .nd (Tr.setF f l (Nat.div j 2) x) v r
        | false => .nd l v (Tr.setF f r (Nat.div j 2) x)
def Tr.set {α : Type} (t : Tr α) (i : Nat) (x : Option α) : Tr α := Tr.setF (Nat.succ i) t i x
/-- The state of a run: the heap and the next name. -/
structure CS where
  h : Tr DO
  nx : Nat
abbrev CE := Tr DV
def CE.at_ (e : CE) (i : Nat) : DV := match Tr.get e i with | some v => v | none => .tup []
def CE.put (e : CE) (i : Nat) (v : DV) : CE := Tr.set e i (some v)
def CS.get (S : CS) (b : Nat) : Option DO := S.h.get b
def CS.put (S : CS) (b : Nat) (o : Option DO) : CS := ⟨Tr.set S.h b o, S.nx⟩
def CS.puts (S : CS) : Puts → CS
  | [] => S
  | (b, o) :: l => (S.put b o).puts l
def CS.kill (S : CS) : Option Nat → CS
  | none => S
  | some b => S.put b none
/-! ### Equality of values (for what is read again) -/
def allEq {α : Type} (f : α → α → Bool) : List α → List α → Bool
  | [], [] => true
  | a :: x, b :: y => match f a b with | true => allEq f x y | false => false
  | _, _ => false
def dvEq : Nat → DV → DV → Bool
  | 0, _, _ => false
  | Nat.succ n, x, y => match x, y with
    | .bool a, .bool b => (match a, b with | true, true => true | false, false => true | _, _ => false)
    | .int k a, .int k' b => (match kq k k' with | true => ieq a b | false => false)
    | .str a, .str b => seq a b
    | .nilp, .nilp => true
    | .ptr b i o, .ptr b' i' o' => (match Nat.beq b b', Nat.beq i i' with | true, true => Nat.beq o o' | _, _ => false)
    | .iptr r o, .iptr r' o' => (match Nat.beq o o' with | true => allEq (dvEq n) r r' | false => false)
    | .nilm, .nilm => true
    | .map a, .map b => Nat.beq a b
    | .it a, .it b => Nat.beq a b
    | .nilf, .nilf => true
    | .func f a b, .func f' a' b' => (match Nat.beq f f', allEq (dvEq n) a a' with | true, true => allEq (dvEq n) b b' | _, _ => false)
    | .iface t v, .iface t' v' => (match Nat.beq t t' with | true => dvEq n v v' | false => false)
    | .nili, .nili => true
    | .agg a, .agg b => allEq (dvEq n) a b
    | .tup a, .tup b => allEq (dvEq n) a b
    | .isl k nf r tl, .isl k' nf' r' tl' => (match Nat.beq k k' with
      | true => (match nf, nf' with
        | some true, some true | some false, some false | none, none => (match tl, tl' with
          | .ex, .ex | .no, .no => allEq (allEq (dvEq n)) r r'
          | .tk t i, .tk t' i' => (match Nat.beq t t', Nat.beq i i' with | true, true => allEq (allEq (dvEq n)) r r' | _, _ => false)
          | _, _ => false)
        | _, _ => false)
      | false => false)
    | .sl b i n c, .sl b' i' n' c' => (match Nat.beq b b', Nat.beq i i', Nat.beq n n' with
      | true, true, true => (match c, c' with | none, none => true | some x, some y => Nat.beq x y | _, _ => false)
      | _, _, _ => false)
    | _, _ => false
/-! ### The run -/
inductive RI where
  | c (c : DC)
  | ib (id : Nat)
  | il (body : DC)
  | op (base : Nat) (ops : List DOper)
  | ch (base : Nat) (all l : List RdI)
def exitRI (id : Nat) : List RI → Option (List RI)
  | [] => none
  | .ib i :: k => match Nat.beq i id with | true => some k | false => exitRI id k
  | _ :: k => exitRI id k
def envC : Nat → List DV → CE → CE
  | _, [], e => e
  | i, v :: vs, e => envC (Nat.succ i) vs (e.put i v)
def fzC (mode : Nat) (S : CS) : List DV → Option (List DV × CS)
  | [] => some ([], S)
  | v :: vs => match fzH mode S.get v with
    | some (v', b) => match fzC mode (S.kill b) vs with | some (vs', S') => some (v' :: vs', S') | none => none
    | none => none
def resC (S : CS) (e : CE) (f : DF) : Option (DV × CS) :=
  match resH S.get e.at_ f.res with
  | some vs => match fzC f.mode S vs with
    | some (vs', S') => some (one vs', S')
    | none => none
  | none => none
/-- A reader is read again. -/
def rechC (G : List (List DV)) (base : Nat) (e : CE) (S : CS) (p : DOp) (d : Nat) : Bool :=
  match dop G base e.at_ S.get p with
  | some (v, []) => dvEq 1000 v (e.at_ d)
  | _ => false
def wantC (e : CE) (t : Nat) (b : Bool) : Bool := match e.at_ t with | .bool c => (match c, b with | true, true => true | false, false => true | _, _ => false) | _ => false
/-- Every reader of slot d comes to what the slot holds. -/
def rechX (G : List (List DV)) (base : Nat) (e : CE) (S : CS) (d : Nat) : List RdI → Bool
  | [] => true
  | it :: l => match it.x with
    | .o d' p => (match Nat.beq d' d with
      | true => (match rechC G base e S p d with | true => rechX G base e S d l | false => false)
      | false => rechX G base e S d l)
    | .g d' t b p => (match Nat.beq d' d with
      | true => (match wantC e t b with
        | true => (match rechC G base e S p d with | true => rechX G base e S d l | false => false)
        | false => (match e.at_ d with | .tup [] => rechX G base e S d l | _ => false))
      | false => rechX G base e S d l)
    | _ => rechX G base e S d l
def rechL (G : List (List DV)) (base : Nat) (all : List RdI) (e : CE) (S : CS) : List Nat → Bool
  | [] => true
  | d :: ds => match rechX G base e S d all with
    | true => rechL G base all e S ds
    | false => false
/-- What the run is told of functions that it does not go into: none: it goes in. -/
abbrev Hook := Nat → CS → List DV → Option (Option (DV × CS))
def callC (T : Tr DF) (hk : Hook) (rn : List RI → CE → CS → Option (CE × CS)) (S : CS) (f : Nat) (args : List DV) : Option (DV × CS) :=
  match hk f S args with
  | some r => r
  | none => match T.get f with
    | some df => match rn [.c df.body] (envC 0 args .lf) S with
      | some (e', S') => resC S' e' df
      | none => none
    | none => none
def goC (G : List (List DV)) (idle : Nat → Bool) (call : Nat → List DV → Option (DV × CS)) (e : CE) (S : CS) (base : Nat) (p : DOp) : Option (DV × CE × CS) :=
  match p with
  | .call f xs => match call f (evs G e.at_ xs) with | some (v, S') => some (v, e, S') | none => none
  | .callv x xs => match ev G e.at_ x with
    | .func f fa fb => match call f (fa ++ (evs G e.at_ xs ++ fb)) with | some (v, S') => some (v, e, S') | none => none
    | _ => none
  | .df x => match ev G e.at_ x with
    | .func f _ _ => (match idle f with | true => some (.tup [], e, S) | false => none)
    | _ => none
  | .stf m t v => match e.at_ t with
    | .ptr b 0 0 => match S.get b with
      | some (.cells _ [r]) => match Nat.beq (lenN (cellsOf (ev G e.at_ v))) m, Nat.beq (lenN r) m, allSc (cellsOf (ev G e.at_ v)) with
        | true, true, true => some (.tup [], e.put t (.iptr (cellsOf (ev G e.at_ v)) 0), S.put b none)
        | _, _, _ => none
      | _ => none
    | _ => none
  | p => match dop G base e.at_ S.get p with
    | some (v, ps) => some (v, e, S.puts ps)
    | none => none
def operC (go : DOp → Option (DV × CE × CS)) (e : CE) (S : CS) (o : DOper) : Option (CE × CS) :=
  match o with
  | .o d p => match go p with | some (v, e', S') => some (e'.put d v, S') | none => none
  | .n p => match go p with | some (_, e', S') => some (e', S') | none => none
  | .g d t b p => match wantC e t b with
    | true => (match go p with | some (v, e', S') => some (e'.put d v, S') | none => none)
    | false => some (e.put d (.tup []), S)
  | .h t b p => match wantC e t b with
    | true => (match go p with | some (_, e', S') => some (e', S') | none => none)
    | false => some (e, S)
/-- The run of a list of things to do, up to the function's end. -/
def run (T : Tr DF) (G : List (List DV)) (hk : Hook) (idle : Nat → Bool) : Nat → List RI → CE → CS → Option (CE × CS)
  | 0, _, _, _ => none
  | Nat.succ _, [], e, S => some (e, S)
  | Nat.succ n, it :: k, e, S =>
    match it with
    | .ib _ => run T G hk idle n k e S
    | .il b => run T G hk idle n (.c b :: .il b :: k) e S
    | .c c => match c with
      | .sk => run T G hk idle n k e S
      | .rt => some (e, S)
      | .sq a b => run T G hk idle n (.c a :: .c b :: k) e S
      | .cd x a b => match ev G e.at_ x with
        | .bool true => run T G hk idle n (.c a :: k) e S
        | .bool false => run T G hk idle n (.c b :: k) e S
        | _ => none
      | .bk id c => run T G hk idle n (.c c :: .ib id :: k) e S
      | .lp c => run T G hk idle n (.c c :: .il c :: k) e S
      | .ex id => match exitRI id k with | some k => run T G hk idle n k e S | none => none
      | .rg na ops => run T G hk idle n (.op S.nx ops :: k) e ⟨S.h, Nat.add S.nx na⟩
      | .rd na l => run T G hk idle n (.ch S.nx l l :: k) e ⟨S.h, Nat.add S.nx na⟩
    | .op base ops => match ops with
      | [] => run T G hk idle n k e S
      | o :: ops => match operC (goC G idle (callC T hk (run T G hk idle n) S) e S base) e S o with
        | some (e', S') => run T G hk idle n (.op base ops :: k) e' S'
        | none => none
    | .ch base all l => match l with
      | [] => run T G hk idle n k e S
      | i :: l => match operC (goC G idle (callC T hk (run T G hk idle n) S) e S base) e S i.x with
        | some (e', S') => match rechL G base all e' S' i.sl with
          | true => run T G hk idle n (.ch base all l :: k) e' S'
          | false => none
        | none => none
end Go.Proofs.YtfmicbbflpkdgaaGreatDoor.D
/-
  The D machine, part B: that the run is sound.
-/
namespace Go.Proofs.YtfmicbbflpkdgaaGreatDoor.D
theorem half_eq {i j : Nat} (h1 : i % 2 = j % 2) (h2 : i / 2 = j / 2) : i = j := by omega
theorem Tr.get_lf {α : Type} (j : Nat) : (Tr.lf : Tr α).get j = none := by cases j <;> rfl
theorem beq_mod (j : Nat) : Nat.beq (Nat.mod j 2) 0 = decide (j % 2 = 0) := beqN _ _
theorem Tr.get_setF {α : Type} : ∀ (f : Nat) (t : Tr α) (i : Nat) (x : Option α) (j : Nat), i < f → (Tr.setF f t i x).get j = if j = i then x else t.get j
  | 0, _, _, _, _, h => by omega
  | f + 1, t, i, x, j, h => by
    have hrec : ∀ (t : Tr α) (i' j' : Nat), i' < f → (Tr.setF f t i' x).get j' = if j' = i' then x else t.get j' := fun t i' j' h' => Tr.get_setF f t i' x j' h'
    cases i with
    | zero =>
      cases t with
      | lf => cases j with
        | zero => rfl
        | succ j => simp only [Tr.setF, Tr.get]; split <;> simp
      | nd l v r => cases j with
        | zero => rfl
        | succ j => simp [Tr.setF, Tr.get]
    | succ i =>
      have hdiv : i / 2 < f := by omega
      have hd : ∀ a, Nat.div a 2 = a / 2 := fun _ => rfl
      cases t with
      | lf =>
        simp only [Tr.setF, beq_mod]
        by_cases hi : i % 2 = 0
        · simp only [hi, decide_true]
          cases j with
          | zero => simp [Tr.get]
          | succ j =>
            simp only [Tr.get, beq_mod]
            by_cases hj : j % 2 = 0
            · simp only [hj, decide_true, hrec _ _ _ hdiv, hd, Tr.get_lf]
              by_cases he : j = i
              · subst he; simp
              · rw [if_neg (fun h => he (half_eq (by omega) h)), if_neg (by omega)]
            · simp only [hj, decide_false]
              rw [if_neg (by omega)]
        · simp only [hi, decide_false]
          cases j with
          | zero => simp [Tr.get]
          | succ j =>
            simp only [Tr.get, beq_mod]
            by_cases hj : j % 2 = 0
            · simp only [hj, decide_true]
              rw [if_neg (by omega)]
            · simp only [hj, decide_false, hrec _ _ _ hdiv, hd, Tr.get_lf]
              by_cases he : j = i
              · subst he; simp
              · rw [if_neg (fun h => he (half_eq (by omega) h)), if_neg (by omega)]
      | nd l v r =>
        simp only [Tr.setF, beq_mod]
        by_cases hi : i % 2 = 0
        · simp only [hi, decide_true]
          cases j with
          | zero => simp [Tr.get]
          | succ j =>
            simp only [Tr.get, beq_mod]
            by_cases hj : j % 2 = 0
            · simp only [hj, decide_true, hrec _ _ _ hdiv, hd]
              by_cases he : j = i
              · subst he; simp
              · rw [if_neg (fun h => he (half_eq (by omega) h)), if_neg (by omega)]
            · simp only [hj, decide_false]
              rw [if_neg (by omega)]
        · simp only [hi, decide_false]
          cases j with
          | zero => simp [Tr.get]
          | succ j =>
            simp only [Tr.get, beq_mod]
            by_cases hj : j % 2 = 0
            · simp only [hj, decide_true]
              rw [if_neg (by omega)]
            · simp only [hj, decide_false, hrec _ _ _ hdiv, hd]
              by_cases he : j = i
              · subst he; simp
              · rw [if_neg (fun h => he (half_eq (by omega) h)), if_neg (by omega)]
theorem Tr.get_set {α : Type} (t : Tr α) (i : Nat) (x : Option α) (j : Nat) : (Tr.set t i x).get j = if j = i then x else t.get j := Tr.get_setF _ _ _ _ _ (Nat.lt_succ_self i)
theorem at_put (e : CE) (d : Nat) (v : DV) : CE.at_ (CE.put e d v) = upd (CE.at_ e) d v := by
  funext j
  simp only [CE.at_, CE.put, Tr.get_set, upd]
  by_cases h : j = d <;> simp [h]
def CS.ds (S : CS) : DS := ⟨S.get, S.nx⟩
theorem cs_put (S : CS) (b : Nat) (o : Option DO) : (S.put b o).ds = S.ds.put b o := by
  simp only [CS.ds, CS.put, DS.put, DS.mk.injEq, and_true]
  funext j
  simp only [CS.get, Tr.get_set, Heap.put]
theorem ds_puts : ∀ (ps : Puts) (S : CS), (S.puts ps).ds = S.ds.puts ps
  | [], S => rfl
  | (b, o) :: ps, S => by
    show ((S.put b o).puts ps).ds = (S.ds.put b o).puts ps
    rw [ds_puts ps, cs_put]
theorem ds_kill (S : CS) (b : Option Nat) : (S.kill b).ds = killO S.ds b := by
  cases b with
  | none => rfl
  | some b => exact cs_put S b none
theorem envC_at : ∀ (vs : List DV) (i : Nat) (e : CE) (j : Nat), CE.at_ (envC i vs e) j = if i ≤ j then (match nth vs (j - i) with | some v => v | none => CE.at_ e j) else CE.at_ e j
  | [], i, e, j => by simp [envC, nth]
  | v :: vs, i, e, j => by
    simp only [envC]
    rw [envC_at vs (Nat.succ i) (CE.put e i v) j, at_put]
    by_cases h : i ≤ j
    · rw [if_pos h]
      by_cases h1 : i = j
      · subst h1
        rw [if_neg (by omega)]
        simp [upd, nth]
      · rw [if_pos (by omega), show j - i = (j - Nat.succ i) + 1 by omega]
        simp only [nth, upd, Ne.symm h1, if_false]
    · rw [if_neg h, if_neg (by omega)]
      simp only [upd, show ¬ j = i by omega, if_false]
theorem envC_args (args : List DV) : CE.at_ (envC 0 args .lf) = envA args := by
  funext j
  rw [envC_at, if_pos (Nat.zero_le _), Nat.sub_zero]
  simp only [envA, CE.at_, Tr.get_lf]
  cases nth args j <;> rfl
theorem fzC_ds {mode : Nat} : ∀ {vs vs' : List DV} {S S' : CS}, fzC mode S vs = some (vs', S') → fzL mode S.ds vs = some (vs', S'.ds)
  | [], vs', S, S', h => by simp only [fzC, Option.some.injEq, Prod.mk.injEq] at h; obtain ⟨rfl, rfl⟩ := h; rfl
  | v :: vs, vs', S, S', h => by
    simp only [fzC] at h
    simp only [fzL, show S.ds.h = S.get from rfl]
    split at h
    · rename_i v' b hv
      rw [hv]
      simp only
      split at h
      · rename_i vs1 S1 h1
        cases h
        rw [← ds_kill, fzC_ds h1]
      · cases h
    · cases h
end Go.Proofs.YtfmicbbflpkdgaaGreatDoor.D
/-
  The D machine, part C: that the run is sound.
-/
namespace Go.Proofs.YtfmicbbflpkdgaaGreatDoor.D
variable {P : Program} {G : List (List DV)} {T : Tr DF} {hk : Hook} {idle : Nat → Bool} {N : Nat}
def AllIdle (P : Program) (G : List (List DV)) (dd : Dd) : Prop := ∀ d, d ∈ dd → ∀ D, DIdle P G d D
structure Told (P : Program) (G : List (List DV)) (T : Tr DF) (hk : Hook) (idle : Nat → Bool) : Prop where
  mixed : P.follows .mixedOrders = true
  tab : ∀ f df, T.get f = some df → chkF P G (fun N => rdOk P G N) f df = true
  hook : ∀ f S args v S', hk f S args = some (some (v, S')) → DCalls P G f args S.ds fun d D => d = v ∧ D = S'.ds
  idle : ∀ f fa fb D, idle f = true → DIdle P G (.func f fa fb) D
def itsOf : List RI → List It
  | [] => []
  | .c c :: k => .c c :: itsOf k
  | .ib id :: k => .ib id :: itsOf k
  | .il b :: k => .il b :: itsOf k
  | .op base ops :: k => .op base ops :: itsOf k
  | .ch _ _ _ :: k => itsOf k
def noCh : List RI → Bool
  | [] => true
  | .ch _ _ _ :: _ => false
  | .op _ _ :: _ => false
  | _ :: k => noCh k
def topCh : List RI → Bool
  | .ch _ _ _ :: k => noCh k
  | .op _ _ :: k => noCh k
  | k => noCh k
def GR (P : Program) (G : List (List DV)) (N : Nat) (k : List RI) (Q : Env → DS → Dd → Prop) (e : Env) (D : DS) (dd : Dd) : Prop :=
  match k with
  | .ch base all l :: k => ∀ na, Chain P G base na (opsOf all) (clOf l) e D dd fun e D dd => Good P G (rdOk P G N) N (itsOf k) Q e D dd
  | k => Good P G (rdOk P G N) N (itsOf k) Q e D dd
theorem GR_good {k : List RI} {Q : Env → DS → Dd → Prop} {e : Env} {D : DS} {dd : Dd} (hk : noCh k = true) (h : GR P G N k Q e D dd) : Good P G (rdOk P G N) N (itsOf k) Q e D dd := by
  match k, hk, h with
  | [], _, h => exact h
  | .c _ :: _, _, h => exact h
  | .ib _ :: _, _, h => exact h
  | .il _ :: _, _, h => exact h
theorem noCh_top {k : List RI} (h : noCh k = true) : topCh k = true := by
  match k, h with
  | [], _ => rfl
  | .c _ :: _, h => exact h
  | .ib _ :: _, h => exact h
  | .il _ :: _, h => exact h
theorem exitRI_ok {id : Nat} : ∀ {k k' : List RI}, noCh k = true → exitRI id k = some k' → exitIt id (itsOf k) = some (itsOf k') ∧ noCh k' = true
  | [], _, _, h => by simp [exitRI] at h
  | .c c :: k, k', hn, h => exitRI_ok (k := k) hn (by simpa [exitRI] using h)
  | .il c :: k, k', hn, h => exitRI_ok (k := k) hn (by simpa [exitRI] using h)
  | .ib i :: k, k', hn, h => by
    simp only [exitRI] at h
    simp only [itsOf, exitIt]
    split at h
    · rename_i hi
      cases h
      rw [hi]
      exact ⟨rfl, hn⟩
    · rename_i hi
      rw [hi]
      exact exitRI_ok (k := k) hn h
  | .op _ _ :: _, _, hn, _ => by simp [noCh] at hn
  | .ch _ _ _ :: _, _, hn, _ => by simp [noCh] at hn
theorem wantC_eq (e : CE) (t : Nat) (b : Bool) : wantC e t b = want (CE.at_ e) t b := by
  simp only [wantC, want]
  cases CE.at_ e t <;> first | rfl | skip
  rename_i c
  cases c <;> cases b <;> rfl
theorem goC_sound (ht : Told P G T hk idle) {call : Nat → List DV → Option (DV × CS)} {e e' : CE} {S S' : CS} {base : Nat} {p : DOp} {v : DV} {dd : Dd} (hcall : ∀ f args v S', call f args = some (v, S') → DCalls P G f args S.ds fun d D => d = v ∧ D = S'.ds)
    (hd : AllIdle P G dd) (h : goC G idle call e S base p = some (v, e', S')) : Op1 P G base p (CE.at_ e) S.ds dd fun d E D dd' => d = v ∧ E = CE.at_ e' ∧ D = S'.ds ∧ AllIdle P G dd' := by
  have plainCase : (match dop G base e.at_ S.get p with | some (v, ps) => some (v, e, S.puts ps) | none => none) = some (v, e', S') → ∃ ps, dop G base (CE.at_ e) S.ds.h p = some (v, ps) ∧ e' = e ∧ S.ds.puts ps = S'.ds := by
    intro h
    split at h
    · rename_i v1 ps hv
      cases h
      exact ⟨ps, hv, rfl, (ds_puts ps S).symm⟩
    · cases h
  cases p
  case call f xs =>
    simp only [goC] at h
    split at h
    · rename_i v1 S1 hc
      cases h
      exact ⟨_, hcall _ _ _ _ hc, fun d D ⟨h1, h2⟩ => ⟨h1, rfl, h2, hd⟩⟩
    · cases h
  case callv x xs =>
    simp only [goC] at h
    split at h
    · rename_i f fa fb hx
      split at h
      · rename_i v1 S1 hc
        cases h
        exact ⟨f, fa, fb, _, hx, hcall _ _ _ _ hc, fun d D ⟨h1, h2⟩ => ⟨h1, rfl, h2, hd⟩⟩
      · cases h
    · cases h
  case df x =>
    simp only [goC] at h
    split at h
    · rename_i f fa fb hx
      split at h
      · rename_i hi
        cases h
        refine ⟨f, fa, fb, hx, rfl, rfl, rfl, fun d hdm D => ?_⟩
        rcases List.mem_cons.1 hdm with rfl | hdm
        · exact ht.idle f fa fb D hi
        · exact hd d hdm D
      · cases h
    · cases h
  case stf n t u =>
    simp only [goC] at h
    split at h
    · rename_i b hb
      split at h
      · rename_i k r hr
        simp only [beqN, lenN_eq] at h
        split at h
        · rename_i h1 h2 h3
          rw [decide_eq_true_eq] at h1 h2
          cases h
          exact ⟨b, k, r, hb, hr, h1, h2, h3, rfl, (at_put e t _).symm, (cs_put S b none).symm, hd⟩
        · cases h
      · cases h
    · cases h
  case nxm x =>
    simp only [goC] at h
    obtain ⟨ps, h1, rfl, h3⟩ := plainCase h
    simp only [dop] at h1
    split at h1
    · rename_i b hb
      split at h1
      · rename_i m n left cur hm
        split at h1
        · rename_i es hes
          simp only [beqN, lenN_eq] at h1
          split at h1
          · rename_i hn
            rw [decide_eq_true_eq] at hn
            split at h1
            · cases h1
              exact ⟨b, m, n, [], cur, es, hb, hm, hes, hn, fun _ => ⟨rfl, rfl, h3, hd⟩, fun i hi => by simp at hi⟩
            · rename_i i
              split at h1
              · rename_i k1 v1 hki
                cases h1
                rw [nth_eq] at hki
                refine ⟨b, m, n, [i], cur, es, hb, hm, hes, hn, fun h => absurd h (by simp), fun i' hi' hl => ?_⟩
                simp only [List.mem_singleton] at hi'
                subst hi'
                have hg : es.getD i' (.nilp, .nilp) = (k1, v1) := by simp [List.getD_eq_getElem?_getD, hki]
                rw [hg]
                refine ⟨rfl, rfl, ?_, hd⟩
                rw [← h3]
                simp [DS.puts, Heap.puts, DS.put]
              · cases h1
            · cases h1
          · cases h1
        · cases h1
      · cases h1
    · cases h1
  all_goals
    simp only [goC] at h
    obtain ⟨ps, h1, rfl, h3⟩ := plainCase h
    exact ⟨v, ps, h1, rfl, rfl, h3, hd⟩
theorem operC_sound (ht : Told P G T hk idle) {call : Nat → List DV → Option (DV × CS)} {e e' : CE} {S S' : CS} {base : Nat} {x : DOper} {dd : Dd} (hcall : ∀ f args v S', call f args = some (v, S') → DCalls P G f args S.ds fun d D => d = v ∧ D = S'.ds)
    (hd : AllIdle P G dd) (h : operC (goC G idle call e S base) e S x = some (e', S')) : OpX P G base x (CE.at_ e) S.ds dd fun E D dd' => E = CE.at_ e' ∧ D = S'.ds ∧ AllIdle P G dd' := by
  have put : ∀ {d : Nat} {p : DOp}, (match goC G idle call e S base p with | some (v, e', S') => some (e'.put d v, S') | none => none) = some (e', S') →
      Op1 P G base p (CE.at_ e) S.ds dd fun v E D dd' => upd E d v = CE.at_ e' ∧ D = S'.ds ∧ AllIdle P G dd' := by
    intro d p h
    split at h
    · rename_i v e1 S1 hg
      cases h
      exact op1_mono (goC_sound ht hcall hd hg) fun d1 E D dd' ⟨h1, h2, h3, h4⟩ => ⟨by rw [h1, h2, at_put], h3, h4⟩
    · cases h
  have noput : ∀ {p : DOp}, (match goC G idle call e S base p with | some (_, e', S') => some (e', S') | none => none) = some (e', S') →
      Op1 P G base p (CE.at_ e) S.ds dd fun _ E D dd' => E = CE.at_ e' ∧ D = S'.ds ∧ AllIdle P G dd' := by
    intro p h
    split at h
    · rename_i v e1 S1 hg
      cases h
      exact op1_mono (goC_sound ht hcall hd hg) fun d1 E D dd' ⟨h1, h2, h3, h4⟩ => ⟨h2, h3, h4⟩
    · cases h
  cases x with
  | o d p => exact put h
  | n p => exact noput h
  | g d t b p =>
    simp only [operC, wantC_eq] at h
    simp only [OpX]
    split at h
    · rename_i hw
      rw [hw]
      exact put h
    · rename_i hw
      rw [hw]
      cases h
      exact ⟨(at_put e d _).symm, rfl, hd⟩
  | h t b p =>
    simp only [operC, wantC_eq] at h
    simp only [OpX]
    split at h
    · rename_i hw
      rw [hw]
      exact noput h
    · rename_i hw
      rw [hw]
      cases h
      exact ⟨rfl, rfl, hd⟩
/-! ### Readers that are read again -/
theorem allEq_sound {α : Type} {f : α → α → Bool} (hf : ∀ a b, f a b = true → a = b) : ∀ (l m : List α), allEq f l m = true → l = m
  | [], [], _ => rfl
  | [], _ :: _, h => by simp [allEq] at h
  | _ :: _, [], h => by simp [allEq] at h
  | a :: l, b :: m, h => by
    simp only [allEq] at h
    split at h
    · rename_i hab
      rw [hf a b hab, allEq_sound hf l m h]
    · cases h
theorem dvEq_sound : ∀ (n : Nat) (x y : DV), dvEq n x y = true → x = y
  | 0, x, y, h => by simp [dvEq] at h
  | n + 1, x, y, h => by
    have ih := allEq_sound (dvEq_sound n)
    have ih2 := allEq_sound ih
    cases x <;> cases y <;> simp only [dvEq, beqN, kq_eq, ieq_eq, seq_eq] at h <;> first
      | (cases h; done)
      | rfl
      | skip
    all_goals
      repeat' split at h
      all_goals first
        | (cases h; done)
        | (simp_all; done)
        | (simp_all [ih _ _ h]; done)
        | (simp_all [ih2 _ _ h]; done)
        | (rename_i h1 h2; rw [of_decide_eq_true h1, ih _ _ h2, ih _ _ h]; done)
        | (rename_i h1; rw [of_decide_eq_true h1, dvEq_sound n _ _ h]; done)
theorem rechC_sound {e : CE} {S : CS} {base d : Nat} {p : DOp} (h : rechC G base e S p d = true) : ∃ v, dop G base (CE.at_ e) S.ds.h p = some (v, []) ∧ CE.at_ e d = v := by
  unfold rechC at h
  split at h
  · rename_i v hv
    exact ⟨v, hv, (dvEq_sound _ _ _ h).symm⟩
  · cases h
theorem rechX_sound {e : CE} {S : CS} {base d : Nat} : ∀ {l : List RdI}, rechX G base e S d l = true → ∀ r, r ∈ opsOf l → dstX r = some d → Rech G base r (CE.at_ e) S.ds
  | [], _, r, hr, _ => by simp [opsOf] at hr
  | it :: l, h, r, hr, hd => by
    simp only [opsOf, List.mem_cons] at hr
    have rest : rechX G base e S d l = true → r ∈ opsOf l → Rech G base r (CE.at_ e) S.ds := fun h1 h2 => rechX_sound h1 r h2 hd
    unfold rechX at h
    rcases hr with rfl | hr
    · clear rest
      cases hx : it.x with
      | n p => rw [hx] at hd; simp [dstX] at hd
      | h t b p => rw [hx] at hd; simp [dstX] at hd
      | o d' p =>
        rw [hx] at hd h
        simp only [dstX, Option.some.injEq] at hd
        subst hd
        simp only [Nat.beq_refl] at h
        split at h
        · rename_i hc
          obtain ⟨v, h1, h2⟩ := rechC_sound hc
          exact ⟨v, h1, fun s hs => by simp only [dstX, Option.some.injEq] at hs; subst hs; exact h2⟩
        · cases h
      | g d' t b p =>
        rw [hx] at hd h
        simp only [dstX, Option.some.injEq] at hd
        subst hd
        simp only [Nat.beq_refl, wantC_eq] at h
        split at h
        · rename_i hw
          split at h
          · rename_i hc
            obtain ⟨v, h1, h2⟩ := rechC_sound hc
            refine ⟨v, ?_, fun s hs => by simp only [dstX, Option.some.injEq] at hs; subst hs; exact h2⟩
            simp only [qe, wantX, hw, opX]
            exact h1
          · cases h
        · rename_i hw
          split at h
          · rename_i ht
            refine ⟨.tup [], ?_, fun s hs => by simp only [dstX, Option.some.injEq] at hs; subst hs; exact ht⟩
            simp only [qe, wantX, hw]
          · cases h
    · refine rest ?_ hr
      clear rest
      split at h
      · split at h
        · split at h
          · exact h
          · cases h
        · exact h
      · split at h
        · split at h
          · split at h
            · exact h
            · cases h
          · split at h
            · exact h
            · cases h
        · exact h
      · exact h
theorem rechL_sound {e : CE} {S : CS} {base : Nat} {all : List RdI} : ∀ {sl : List Nat}, rechL G base all e S sl = true → ∀ r, r ∈ opsOf all → inSl r sl = true → Rech G base r (CE.at_ e) S.ds
  | [], _, r, _, hi => by
    unfold inSl at hi
    split at hi <;> simp [memN] at hi
  | d :: ds, h, r, hr, hi => by
    simp only [rechL] at h
    split at h
    · rename_i hx
      unfold inSl at hi
      split at hi
      · rename_i s hs
        simp only [Bool.and_eq_true, memN_iff, List.mem_cons] at hi
        obtain ⟨hi1, hi2⟩ := hi
        rcases hi1 with rfl | hi1
        · exact rechX_sound hx r hr hs
        · refine rechL_sound h r hr ?_
          simp only [inSl, hs, Bool.and_eq_true, memN_iff]
          exact ⟨hi1, hi2⟩
      · cases hi
    · cases h
/-! ### The run is sound -/
def RunOk (P : Program) (G : List (List DV)) (T : Tr DF) (hk : Hook) (idle : Nat → Bool) (n : Nat) : Prop :=
  ∀ (N : Nat) (k : List RI) (e e' : CE) (S S' : CS) (dd : Dd), topCh k = true → AllIdle P G dd → run T G hk idle n k e S = some (e', S') →
    GR P G N k (fun E D dd => E = CE.at_ e' ∧ D = S'.ds ∧ AllIdle P G dd) (CE.at_ e) S.ds dd
theorem callC_sound (ht : Told P G T hk idle) {n : Nat} (ih : RunOk P G T hk idle n) {f : Nat} {args : List DV} {S S' : CS} {v : DV} (h : callC T hk (run T G hk idle n) S f args = some (v, S')) : DCalls P G f args S.ds fun d D => d = v ∧ D = S'.ds := by
  unfold callC at h
  split at h
  · rename_i r hr
    subst h
    exact ht.hook _ _ _ _ _ hr
  · split at h
    · rename_i df hdf
      split at h
      · rename_i e1 S1 hrun
        have hg : Good P G (rdOk P G (NT P f)) (NT P f) [.c df.body] _ (CE.at_ (envC 0 args .lf)) S.ds [] := ih (NT P f) [.c df.body] _ _ _ _ [] rfl (fun d hd => by simp at hd) hrun
        rw [envC_args] at hg
        refine DCalls.of_good (rd := fun N => rdOk P G N) (ht.tab f df hdf) (hg.mono fun E D dd hQ => ?_)
        obtain ⟨rfl, rfl, hdd⟩ := hQ
        unfold resC at h
        split at h
        · rename_i vs hvs
          split at h
          · rename_i vs' S2 hfz
            cases h
            exact ⟨fun d hd => hdd d hd _, vs, vs', S'.ds, hvs, fzC_ds hfz, rfl, rfl⟩
          · cases h
        · cases h
      · cases h
    · cases h
theorem run_sound (ht : Told P G T hk idle) : ∀ n, RunOk P G T hk idle n
  | 0, _, _, _, _, _, _, _, _, _, h => by simp [run] at h
  | n + 1, N, k, e, e', S, S', dd, hk', hd, h => by
    have ih := run_sound ht n
    have hcall : ∀ (S : CS) f args v S', callC T hk (run T G hk idle n) S f args = some (v, S') → DCalls P G f args S.ds fun d D => d = v ∧ D = S'.ds := fun S f args v S' hc => callC_sound ht ih hc
    have good : ∀ {k : List RI} {e : CE} {S : CS} {dd : Dd}, noCh k = true → AllIdle P G dd → run T G hk idle n k e S = some (e', S') →
        Good P G (rdOk P G N) N (itsOf k) (fun E D dd => E = CE.at_ e' ∧ D = S'.ds ∧ AllIdle P G dd) (CE.at_ e) S.ds dd := fun hn hd h => GR_good hn (ih N _ _ _ _ _ _ (noCh_top hn) hd h)
    match k, hk', h with
    | [], _, h =>
      simp only [run, Option.some.injEq, Prod.mk.injEq] at h
      obtain ⟨rfl, rfl⟩ := h
      exact Good.nil ⟨rfl, rfl, hd⟩
    | .ib id :: k, hk', h => exact Good.ib (good hk' hd h)
    | .il b :: k, hk', h => exact Good.il (good (k := .c b :: .il b :: k) hk' hd h)
    | .c .sk :: k, hk', h => exact Good.sk (good hk' hd h)
    | .c .rt :: k, hk', h =>
      simp only [run, Option.some.injEq, Prod.mk.injEq] at h
      obtain ⟨rfl, rfl⟩ := h
      exact Good.rt ⟨rfl, rfl, hd⟩
    | .c (.sq a b) :: k, hk', h => exact Good.sq (good (k := .c a :: .c b :: k) hk' hd h)
    | .c (.cd x a b) :: k, hk', h =>
      simp only [run] at h
      split at h
      · rename_i hx
        exact Good.cd (t := true) hx (good (k := .c a :: k) hk' hd h)
      · rename_i hx
        exact Good.cd (t := false) hx (good (k := .c b :: k) hk' hd h)
      · cases h
    | .c (.bk id c) :: k, hk', h => exact Good.bk (good (k := .c c :: .ib id :: k) hk' hd h)
    | .c (.lp c) :: k, hk', h => exact Good.lp (good (k := .c c :: .il c :: k) hk' hd h)
    | .c (.ex id) :: k, hk', h =>
      simp only [run] at h
      split at h
      · rename_i k2 hx
        obtain ⟨h1, h2⟩ := exitRI_ok (k := k) hk' hx
        exact Good.ex h1 (good h2 hd h)
      · cases h
    | .c (.rg na ops) :: k, hk', h =>
      have := ih N (.op S.nx ops :: k) e e' ⟨S.h, Nat.add S.nx na⟩ S' dd hk' hd h
      exact Good.rg this
    | .c (.rd na l) :: k, hk', h =>
      have := ih N (.ch S.nx l l :: k) e e' ⟨S.h, Nat.add S.nx na⟩ S' dd hk' hd h
      exact Good.rd ht.mixed (this na)
    | .op base [] :: k, hk', h => exact Good.opnil (good hk' hd h)
    | .op base (o :: ops) :: k, hk', h =>
      simp only [run] at h
      split at h
      · rename_i e1 S1 ho
        refine Good.op (opX_mono (operC_sound ht (hcall S) hd ho) fun E D dd1 hQ => ?_)
        obtain ⟨rfl, rfl, hd1⟩ := hQ
        exact ih N (.op base ops :: k) e1 e' S1 S' dd1 hk' hd1 h
      · cases h
    | .ch base all [] :: k, hk', h => exact fun na => good hk' hd h
    | .ch base all (i :: l) :: k, hk', h =>
      simp only [run] at h
      split at h
      · rename_i e1 S1 ho
        split at h
        · rename_i hr
          intro na
          show OpX P G base i.x (CE.at_ e) S.ds dd _
          refine opX_mono (operC_sound ht (hcall S) hd ho) fun E D dd1 hQ _ => ?_
          obtain ⟨rfl, rfl, hd1⟩ := hQ
          exact ⟨fun r hr' hi => rechL_sound hr r hr' hi, ih N (.ch base all l :: k) e1 e' S1 S' dd1 hk' hd1 h na⟩
        · cases h
      · cases h
/-- What the run comes to is what the call comes to. -/
theorem DCalls.of_run (ht : Told P G T hk idle) {n f : Nat} {args : List DV} {S S' : CS} {v : DV} (h : callC T hk (run T G hk idle n) S f args = some (v, S')) : DCalls P G f args S.ds fun d D => d = v ∧ D = S'.ds := callC_sound ht (run_sound ht n) h
end Go.Proofs.YtfmicbbflpkdgaaGreatDoor.D
