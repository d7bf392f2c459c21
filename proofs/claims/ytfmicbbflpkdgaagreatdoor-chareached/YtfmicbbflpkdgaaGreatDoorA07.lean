/-
  The D machine, part D: weakest preconditions, for proofs by hand.
-/
import Derived.Test.YtfmicbbflpkdgaaGreatDoorA05
import Derived.Sort.Row
import Derived.Sort.Grow
set_option linter.unusedVariables false
set_option linter.unusedSimpArgs false
namespace Go.Proofs.YtfmicbbflpkdgaaGreatDoor.D
open Go.RowKit
variable {P : Program} {G : List (List DV)} {S S' : DS} {N base na : Nat} {e e' : Env} {dd : Dd}
abbrev Post := Env → DS → Dd → Prop
abbrev Exits := Nat → Post
def noX : Exits := fun _ _ _ _ => False
def Exits.set (X : Exits) (id : Nat) (K : Post) : Exits := fun i => if i = id then K else X i
theorem Exits.set_at {X : Exits} {id i : Nat} {K : Post} : Exits.set X id K i e S dd = if i = id then K e S dd else X i e S dd := by
  unfold Exits.set
  split <;> rfl
def wpO (P : Program) (G : List (List DV)) (base : Nat) : List DOper → Post → Post
  | [], K => K
  | x :: l, K => fun e S dd => OpX P G base x e S dd (wpO P G base l K)
theorem wpO_nil {K : Post} : wpO P G base [] K e S dd = K e S dd := (rfl)
theorem wpO_cons {x : DOper} {l : List DOper} {K : Post} : wpO P G base (x :: l) K e S dd = OpX P G base x e S dd (wpO P G base l K) := (rfl)
def Smaller (I : Nat → Post) (n : Nat) : Post := fun e S dd => ∃ m, m < n ∧ I m e S dd
def wpC (P : Program) (G : List (List DV)) : DC → Post → Exits → Post → Post
  | .sk, K, _, _ => K
  | .rg na ops, K, _, _ => fun e S dd => wpO P G S.nx ops K e ⟨S.h, S.nx + na⟩ dd
  | .rd na l, K, _, _ => fun e S dd => Chain P G S.nx na (opsOf l) (clOf l) e ⟨S.h, S.nx + na⟩ dd K
  | .sq a b, K, X, R => wpC P G a (wpC P G b K X R) X R
  | .cd x a b, K, X, R => fun e S dd => ∃ t, ev G e x = .bool t ∧ (match t with | true => wpC P G a K X R e S dd | false => wpC P G b K X R e S dd)
  | .bk id c, K, X, R => wpC P G c K (X.set id K) R
  | .lp c, _, X, R => fun e S dd => ∃ (I : Nat → Post) (n : Nat), I n e S dd ∧ ∀ n e S dd, I n e S dd → wpC P G c (Smaller I n) X R e S dd
  | .ex id, _, X, _ => X id
  | .rt, _, _, R => R
/-- The one or the other: what stands behind is not looked at before the condition is known. -/
def ifP (b : Bool) (A B : Post) : Post := fun e S dd => match b with | true => A e S dd | false => B e S dd
theorem ifP_true {A B : Post} : ifP true A B e S dd = A e S dd := (rfl)
theorem ifP_false {A B : Post} : ifP false A B e S dd = B e S dd := (rfl)
theorem ifP_not {b : Bool} {A B : Post} : ifP (!b) A B e S dd = ifP b B A e S dd := by cases b <;> rfl
theorem ifP_dec {p : Prop} [Decidable p] {A B : Post} (h1 : p → A e S dd) (h2 : ¬ p → B e S dd) : ifP (decide p) A B e S dd := by
  by_cases h : p
  · rw [decide_eq_true h]; exact h1 h
  · rw [decide_eq_false h]; exact h2 h
theorem ifP_b {b : Bool} {A B : Post} (h1 : b = true → A e S dd) (h2 : b = false → B e S dd) : ifP b A B e S dd := by
  cases b
  · exact h2 rfl
  · exact h1 rfl
def gOn (P : Program) (G : List (List DV)) (base : Nat) (x : DOper) (K : Post) : Post := fun e S dd => OpX P G base x e S dd K
def gOff (d : Nat) (K : Post) : Post := fun e S dd => K (upd e d (.tup [])) S dd
theorem gOn_eq {x : DOper} {K : Post} : gOn P G base x K e S dd = OpX P G base x e S dd K := (rfl)
theorem gOff_eq {d : Nat} {K : Post} : gOff d K e S dd = K (upd e d (.tup [])) S dd := (rfl)
theorem opx_o {d : Nat} {p : DOp} {K : Post} : OpX P G base (.o d p) e S dd K = Op1 P G base p e S dd fun v e' S' dd' => K (upd e' d v) S' dd' := (rfl)
theorem opx_n {p : DOp} {K : Post} : OpX P G base (.n p) e S dd K = Op1 P G base p e S dd fun _ e' S' dd' => K e' S' dd' := (rfl)
theorem opx_g {d t : Nat} {b : Bool} {p : DOp} {K : Post} : OpX P G base (.g d t b p) e S dd K = ifP (want e t b) (gOn P G base (.o d p) K) (gOff d K) e S dd := by
  simp only [OpX, ifP, gOn, gOff]
  cases want e t b <;> rfl
theorem opx_h {t : Nat} {b : Bool} {p : DOp} {K : Post} : OpX P G base (.h t b p) e S dd K = ifP (want e t b) (gOn P G base (.n p) K) K e S dd := by
  simp only [OpX, ifP, gOn]
  cases want e t b <;> rfl
theorem bq_true {b : Bool} : (b == true) = b := by cases b <;> rfl
theorem bq_false {b : Bool} : (b == false) = !b := by cases b <;> rfl
section
variable {K : Post} {X : Exits} {R : Post} {a b c : DC} {x : Opd} {id : Nat}
theorem wp_sk : wpC P G .sk K X R e S dd = K e S dd := (rfl)
theorem wp_rg {ops : List DOper} : wpC P G (.rg na ops) K X R e S dd = wpO P G S.nx ops K e ⟨S.h, S.nx + na⟩ dd := (rfl)
theorem wp_sq : wpC P G (.sq a b) K X R e S dd = wpC P G a (wpC P G b K X R) X R e S dd := (rfl)
theorem wp_cd : wpC P G (.cd x a b) K X R e S dd = ∃ t, ev G e x = .bool t ∧ ifP t (wpC P G a K X R) (wpC P G b K X R) e S dd := (rfl)
theorem wp_bk : wpC P G (.bk id c) K X R e S dd = wpC P G c K (X.set id K) R e S dd := (rfl)
theorem wp_ex : wpC P G (.ex id) K X R e S dd = X id e S dd := (rfl)
theorem wp_rt : wpC P G .rt K X R e S dd = R e S dd := (rfl)
theorem wp_lp (I : Nat → Post) (n : Nat) (h0 : I n e S dd) (h : ∀ n e S dd, I n e S dd → wpC P G c (Smaller I n) X R e S dd) : wpC P G (.lp c) K X R e S dd := ⟨I, n, h0, h⟩
end
theorem wpO_sound {k : List It} {Q K : Post} (hK : ∀ e S dd, K e S dd → Good P G (rdOk P G N) N k Q e S dd) : ∀ (l : List DOper) (e : Env) (S : DS) (dd : Dd), wpO P G base l K e S dd → Good P G (rdOk P G N) N (.op base l :: k) Q e S dd
  | [], e, S, dd, h => Good.opnil (hK e S dd h)
  | _ :: l, _, _, _, h => Good.op (opX_mono h fun _ _ _ h' => wpO_sound hK l _ _ _ h')
theorem chain_mono {all : List DOper} {K K' : Post} (hK : ∀ e S dd, K e S dd → K' e S dd) : ∀ (l : CL) (e : Env) (S : DS) (dd : Dd), Chain P G base na all l e S dd K → Chain P G base na all l e S dd K'
  | [], _, _, _, h => hK _ _ _ h
  | _ :: l, _, _, _, h => opX_mono h fun _ _ _ h' hf => ⟨(h' hf).1, chain_mono hK l _ _ _ (h' hf).2⟩
theorem wpC_sound (hm : P.follows .mixedOrders = true) {Q : Post} : ∀ (c : DC) (K : Post) (X : Exits) (R : Post) (k : List It), (∀ e S dd, R e S dd → Q e S dd) → (∀ e S dd, K e S dd → Good P G (rdOk P G N) N k Q e S dd) →
    (∀ id e S dd, X id e S dd → ∃ k', exitIt id k = some k' ∧ Good P G (rdOk P G N) N k' Q e S dd) → ∀ e S dd, wpC P G c K X R e S dd → Good P G (rdOk P G N) N (.c c :: k) Q e S dd
  | .sk, K, X, R, k, hR, hK, hX, e, S, dd, h => Good.sk (hK e S dd h)
  | .rg na ops, K, X, R, k, hR, hK, hX, e, S, dd, h => Good.rg (wpO_sound hK ops e _ dd h)
  | .rd na l, K, X, R, k, hR, hK, hX, e, S, dd, h => Good.rd hm (chain_mono hK _ e _ dd h)
  | .sq a b, K, X, R, k, hR, hK, hX, e, S, dd, h => Good.sq (wpC_sound hm a (wpC P G b K X R) X R (.c b :: k) hR (fun e S dd h => wpC_sound hm b K X R k hR hK hX e S dd h) hX e S dd h)
  | .cd x a b, K, X, R, k, hR, hK, hX, e, S, dd, h => by
    obtain ⟨t, h1, h2⟩ := h
    refine Good.cd h1 ?_
    cases t with
    | true => exact wpC_sound hm a K X R k hR hK hX e S dd h2
    | false => exact wpC_sound hm b K X R k hR hK hX e S dd h2
  | .bk id c, K, X, R, k, hR, hK, hX, e, S, dd, h => Good.bk (wpC_sound hm c K (X.set id K) R (.ib id :: k) hR (fun e S dd h => Good.ib (hK e S dd h)) (fun i e S dd h => by
      rw [Exits.set_at] at h
      by_cases hi : i = id
      · subst hi
        rw [if_pos rfl] at h
        exact ⟨k, by simp [exitIt], hK e S dd h⟩
      · rw [if_neg hi] at h
        obtain ⟨k', h1, h2⟩ := hX i e S dd h
        refine ⟨k', ?_, h2⟩
        have : Nat.beq id i = false := by rw [beqN, decide_eq_false_iff_not]; exact fun h => hi h.symm
        simp only [exitIt, this]
        exact h1) e S dd h)
  | .lp c, K, X, R, k, hR, hK, hX, e, S, dd, h => by
    obtain ⟨I, n, h0, hI⟩ := h
    have key : ∀ n e S dd, I n e S dd → Good P G (rdOk P G N) N (.c c :: .il c :: k) Q e S dd := by
      intro n
      induction n using Nat.strongRecOn with
      | ind n ih =>
        intro e S dd hi
        exact wpC_sound hm c (Smaller I n) X R (.il c :: k) hR (fun e S dd ⟨m, h1, h2⟩ => Good.il (ih m h1 e S dd h2)) hX e S dd (hI n e S dd hi)
    exact Good.lp (key n e S dd h0)
  | .ex id, K, X, R, k, hR, hK, hX, e, S, dd, h => by
    obtain ⟨k', h1, h2⟩ := hX id e S dd h
    exact Good.ex h1 h2
  | .rt, K, X, R, k, hR, hK, hX, e, S, dd, h => Good.rt (hR e S dd h)
/-! ### Calls -/
def RetP (P : Program) (G : List (List DV)) (res : List Res) (mode : Nat) (R : DV → DS → Prop) : Post := fun e S dd => (∀ d, d ∈ dd → DIdle P G d S) ∧ ∃ vs vs' S', resH S.h e res = some vs ∧ fzL mode S vs = some (vs', S') ∧ R (one vs') S'
/-- The rule of a function. -/
theorem DCalls.of_wp (hm : P.follows .mixedOrders = true) {f : Nat} {df : DF} {args : List DV} {R : DV → DS → Prop} (hc : chkF P G (fun N => rdOk P G N) f df = true) (h : wpC P G df.body (RetP P G df.res df.mode R) noX (RetP P G df.res df.mode R) (envA args) S []) : DCalls P G f args S R :=
  DCalls.of_good (rd := fun N => rdOk P G N) hc (wpC_sound hm df.body _ noX _ [] (fun _ _ _ h => h) (fun _ _ _ h => Good.nil h) (fun _ _ _ _ h => h.elim) _ _ _ h)
theorem chk_body {f : Nat} {df : DF} {rd : Nat → RdChk} (hc : chkF P G rd f df = true) : HasBody P f := by
  unfold chkF at hc
  split at hc
  · rename_i fn hfn
    simp only [Bool.and_eq_true, Bool.not_eq_true'] at hc
    obtain ⟨⟨hname, hbody⟩, _⟩ := hc
    split at hbody
    · rename_i c hc
      exact ⟨fn, c, hfn, hname, hc⟩
    · cases hbody
  · cases hc
/-- No name from nx on is in use. -/
def Dom (S : DS) : Prop := ∀ b, S.nx ≤ b → S.h b = none
theorem SR.domS {φ : Phi} {ρ : Rho} {w : World} (hs : SR G φ ρ S w) : Dom S := fun b hb => by
  cases h : S.h b with
  | none => rfl
  | some o =>
    obtain ⟨p, h1, _⟩ := hs.heap b o h
    have := (hs.dom b p h1).1
    omega
theorem DCalls.of_dom {f : Nat} {args : List DV} {R : DV → DS → Prop} (hb : HasBody P f) (h : Dom S → DCalls P G f args S R) : DCalls P G f args S R :=
  ⟨hb, fun φ ρ w va hs ha => (h hs.domS).2 φ ρ w va hs ha⟩
/-- What is left over may be forgotten. -/
theorem DCalls.forget {f : Nat} {args : List DV} {R R' : DV → DS → Prop} (h : DCalls P G f args S R) (hr : ∀ d D, R d D → ∃ D', R' d D' ∧ (∀ id o, D'.h id = some o → D.h id = some o) ∧ D.nx ≤ D'.nx) : DCalls P G f args S R' :=
  ⟨h.1, fun φ ρ w va hs ha => (h.2 φ ρ w va hs ha).mono fun x w' hx => by
    cases x with
    | returned v =>
      obtain ⟨d, φ', ρ', D, h1, h2, h3, h4⟩ := hx
      obtain ⟨D', g1, g2, g3⟩ := hr d D h1
      exact ⟨d, φ', ρ', D', g1, h2, h3.forget g2 g3, h4.trans (Trans.forget _ g2 g3)⟩
    | panicked c => exact hx
    | outgrown => exact hx⟩
/-- What a heap says of old names has not changed. -/
def Old (S S' : DS) : Prop := S.nx ≤ S'.nx ∧ ∀ b, b < S.nx → S'.h b = S.h b
theorem Old.refl (S : DS) : Old S S := ⟨Nat.le_refl _, fun _ _ => rfl⟩
theorem Old.trans {S1 S2 S3 : DS} (h : Old S1 S2) (g : Old S2 S3) : Old S1 S3 := ⟨Nat.le_trans h.1 g.1, fun b hb => (g.2 b (Nat.lt_of_lt_of_le hb h.1)).trans (h.2 b hb)⟩
theorem Old.bump {S1 : DS} (h : Old S S1) (n : Nat) : Old S ⟨S1.h, S1.nx + n⟩ := ⟨Nat.le_trans h.1 (Nat.le_add_right ..), h.2⟩
theorem Old.up {S1 : DS} {m : Nat} (h : Old S S1) (hm : S1.nx ≤ m) : Old S ⟨S1.h, m⟩ := ⟨Nat.le_trans h.1 hm, h.2⟩
theorem Old.put {S1 : DS} (h : Old S S1) {b : Nat} (hb : S.nx ≤ b) (o : Option DO) : Old S (S1.put b o) :=
  ⟨h.1, fun c hc => by rw [ds_put, put_ne _ _ (by omega)]; exact h.2 c hc⟩
/-- A function that changes nothing: its value. -/
def Pure (P : Program) (G : List (List DV)) (f : Nat) (args : List DV) (S : DS) (V : DV → Prop) : Prop := DCalls P G f args S fun d D => V d ∧ D.h = S.h ∧ S.nx ≤ D.nx
theorem Pure.mono {f : Nat} {args : List DV} {V V' : DV → Prop} (h : Pure P G f args S V) (hv : ∀ d, V d → V' d) : Pure P G f args S V' := DCalls.mono h fun d _ ⟨h1, h2⟩ => ⟨hv d h1, h2⟩
theorem DCalls.pure {f : Nat} {args : List DV} {V : DV → Prop} (hb : HasBody P f) (h : DCalls P G f args S fun d D => V d ∧ Old S D) : Pure P G f args S V :=
  DCalls.of_dom hb fun hd => h.forget fun d D ⟨h1, h2⟩ => by
    refine ⟨⟨S.h, D.nx⟩, ⟨h1, rfl, h2.1⟩, fun id o ho => ?_, Nat.le_refl _⟩
    by_cases hi : id < S.nx
    · rw [h2.2 id hi]
      exact ho
    · have ho : S.h id = some o := ho
      rw [hd id (by omega)] at ho
      cases ho
/-- The rule of a function that changes nothing. -/
theorem Pure.of_wp (hm : P.follows .mixedOrders = true) {f : Nat} {df : DF} {args : List DV} {V : DV → Prop} (hc : chkF P G (fun N => rdOk P G N) f df = true) (h : wpC P G df.body (RetP P G df.res df.mode fun d D => V d ∧ Old S D) noX (RetP P G df.res df.mode fun d D => V d ∧ Old S D) (envA args) S []) : Pure P G f args S V :=
  DCalls.pure (chk_body hc) (DCalls.of_wp hm hc h)
end Go.Proofs.YtfmicbbflpkdgaaGreatDoor.D
/-
  The D machine, part E: laws that turn an operation of the D machine into its value, for proofs by hand.
-/
namespace Go.Proofs.YtfmicbbflpkdgaaGreatDoor.D
open Go.RowKit
variable {P : Program} {G : List (List DV)} {S S' : DS} {N base na : Nat} {e e' : Env} {dd : Dd} {K : Env → DS → Dd → Prop}
/-- What the proofs are told of the program: its functions are the printed ones. -/
structure TabOk (P : Program) (G : List (List DV)) (T : Nat → Option DF) : Prop where
  mixed : P.follows .mixedOrders = true
  tab : ∀ f df, T f = some df → chkF P G (fun N => rdOk P G N) f df = true
theorem Pure.tab {T : Nat → Option DF} (ht : TabOk P G T) {f : Nat} {df : DF} {args : List DV} {V : DV → Prop} (hf : T f = some df) (h : wpC P G df.body (RetP P G df.res df.mode fun d D => V d ∧ Old S D) noX (RetP P G df.res df.mode fun d D => V d ∧ Old S D) (envA args) S []) : Pure P G f args S V :=
  Pure.of_wp ht.mixed (ht.tab f df hf) h
theorem upd_at {d i : Nat} {v : DV} : upd e d v i = if i = d then v else e i := rfl
theorem envA_at {args : List DV} {i : Nat} : envA args i = match nth args i with | some v => v | none => .tup [] := rfl
theorem puts_nil : S.puts [] = S := rfl
theorem puts_cons {b : Nat} {o : Option DO} {l : Puts} : S.puts ((b, o) :: l) = (S.put b o).puts l := rfl
theorem put_nx {b : Nat} {o : Option DO} : (S.put b o).nx = S.nx := rfl
theorem ex_some {v : DV} {ps : Puts} {K : DV → Puts → Prop} : (∃ d q, (some (v, ps) : Option (DV × Puts)) = some (d, q) ∧ K d q) = K v ps := by
  apply propext
  constructor
  · rintro ⟨d, q, h, hk⟩
    cases h
    exact hk
  · intro h
    exact ⟨v, ps, rfl, h⟩
theorem some1_some {v : DV} : some1 (some v) = some (v, []) := rfl
theorem ex_bool {b : Bool} {M : Bool → Prop} : (∃ t, DV.bool b = .bool t ∧ M t) = M b := by
  apply propext
  constructor
  · rintro ⟨d, h, hk⟩
    cases h
    exact hk
  · intro h
    exact ⟨b, rfl, h⟩
theorem ret_nil {res : List Res} {mode : Nat} {R : DV → DS → Prop} : RetP P G res mode R e S [] = ∃ vs vs' S', resH S.h e res = some vs ∧ fzL mode S vs = some (vs', S') ∧ R (one vs') S' := by
  apply propext
  simp [RetP]
theorem ret_one {n mode : Nat} {R : DV → DS → Prop} {v : DV} {b : Option Nat} (hf : fzH mode S.h (e n) = some (v, b)) (hr : R v (killO S b)) : RetP P G [.t n] mode R e S [] := by
  rw [ret_nil]
  exact ⟨[e n], [v], killO S b, rfl, by simp [fzL, hf], hr⟩
theorem nth_map {α β : Type} (f : α → β) : ∀ (l : List α) (i : Nat), nth (l.map f) i = (nth l i).map f
  | [], _ => rfl
  | _ :: _, 0 => rfl
  | _ :: l, i + 1 => nth_map f l i
theorem nth_lt {α : Type} {l : List α} {i : Nat} (h : i < l.length) : nth l i = some (l[i]) := by rw [nth_eq]; simp [h]
end Go.Proofs.YtfmicbbflpkdgaaGreatDoor.D
/-
  The D machine, part F: the library's sorting, in the D machine's words.
-/
namespace Go.Proofs.YtfmicbbflpkdgaaGreatDoor.D
open Go.RowKit Go.Sort
variable {P : Program} {G : List (List DV)} {φ φ' : Phi} {ρ ρ' : Rho} {S S' : DS} {w w' : World}
theorem SR.more (h : SR G φ ρ S w) (hsz : w.heap.size ≤ w'.heap.size) (hold : ∀ b, b < w.heap.size → w'.heap[b]? = w.heap[b]?) : SR G φ ρ S w' := by
  refine ⟨fun a v ha => ?_, fun id o ho => ?_, h.inj, fun id p hp => ⟨(h.dom id p hp).1, Nat.lt_of_lt_of_le (h.dom id p hp).2 hsz⟩, h.glob⟩
  · have h1 := h.phi a v ha
    rw [← h1]
    exact cell_same (hold _ (cell_lt h1))
  · obtain ⟨p, h1, h2⟩ := h.heap id o ho
    exact ⟨p, h1, h2.step (hold _ (h.dom id p h1).2) (PhiLe.refl _) (RhoLe.refl _) fun _ _ h _ => h⟩
theorem Trans.more (n0 : Nat) (hsz : w.heap.size ≤ w'.heap.size) (hold : ∀ b, b < w.heap.size → w'.heap[b]? = w.heap[b]?) (hos : w'.os = w.os) (htape : w'.tape = w.tape) (hout : w'.output = w.output) (hdr : w.drawn ≤ w'.drawn) : Trans n0 φ ρ S w φ ρ S w' :=
  ⟨PhiLe.refl _, RhoLe.refl _, fun _ _ => rfl, Nat.le_refl _, hsz, hos, htape, hout, fun b hb _ => hold b hb, fun _ h => .inr h, fun _ _ h => .inl h, hdr⟩
/-- A row of values is sorted in place. -/
theorem DCalls.of_sort {α : Type} [Inhabited α] {enc : α → Value} {encD : α → DV} (hrep : ∀ x φ ρ, Rep φ ρ (enc x) (encD x)) (hinv : ∀ v x φ ρ, Rep φ ρ v (encD x) → v = enc x) {f : Nat} (hb : HasBody P f) {sort : List α → List α} {zs : List α} (hlen : (sort zs).length = zs.length)
    (hcalls : ∀ blk off cap w, Holds enc w blk off zs.toArray → blk < w.heap.size → Calls P f #[.slice (some ⟨blk, off, none⟩) zs.length cap] w fun e w' => e = .returned (.tuple #[]) ∧ ∃ n os, w' = grow (putRow enc (Sort.ahead w n) blk off (sort zs).toArray) os)
    {b : Nat} {c : Option Nat} (hS : S.h b = some (.cells 1 (zs.map fun z => [encD z]))) (hpos : 0 < zs.length) :
    DCalls P G f [.sl b 0 zs.length c] S fun d D => d = .tup [] ∧ D = S.put b (some (.cells 1 ((sort zs).map fun z => [encD z]))) := by
  refine ⟨hb, fun φ ρ w va hs ha => ?_⟩
  obtain ⟨hsz, hrep0⟩ := ha
  have h0 := hrep0 0 (by simp)
  have hva : va = #[va.getD 0 undef] := by
    apply Array.ext
    · simpa using hsz
    · intro i h1 h2
      have : i = 0 := by simp at h2; omega
      subst this
      simp [Array.getD, h1]
  rw [hva]
  simp only [List.getD_cons_zero] at h0
  generalize va.getD 0 undef = v at h0
  cases h0 with
  | sl a b i n C cap p hp hC h1 h2 ha' =>
    obtain ⟨q, g1, g2⟩ := hs.heap b _ hS
    rw [hp] at g1
    cases g1
    obtain ⟨hpk, hoff, hcap, hlen1, hphi, arr, el, harr, hasz, hrow⟩ := g2
    simp only [List.length_map] at hcap hrow
    rcases ha' with rfl | h0
    case inr => omega
    have hblk : p.blk < w.heap.size := heap_lt harr
    have hval : ∀ j, j < zs.length → arr.getD j undef = enc (zs.toArray[j]!) := by
      intro j hj
      have := hrow j 0 (by omega) (by omega)
      simp only [Nat.mul_one, Nat.add_zero] at this
      have hg : (((zs.map fun z => [encD z]).getD j []).getD 0 .nilp) = encD (zs.toArray[j]!) := by simp [List.getD_eq_getElem?_getD, hj]
      rw [hg] at this
      exact hinv _ _ _ _ this
    have hoff0 : (⟨p.blk, 0 * p.k, none⟩ : Addr) = ⟨p.blk, 0, none⟩ := by rw [Nat.zero_mul]
    rw [hoff0]
    refine (hcalls p.blk 0 C w ?_ hblk).mono fun e w' ⟨he, n, os, hw⟩ => ?_
    · intro j hj
      have hj : j < zs.length := by simpa using hj
      have hj2 : j < arr.size := by omega
      refine ⟨?_, by simp [World.frozen?, harr]⟩
      rw [Nat.zero_add, cell_arr harr, ← hval j hj]
      simp [Array.getD, hj2]
    · subst he
      subst hw
      have hmb : ∀ b', (putRow enc (Sort.ahead w n) p.blk 0 (sort zs).toArray).heap[b']? = if b' = p.blk then some (.cells (putCells enc 0 (sort zs).toArray arr) el (0, 0)) else w.heap[b']? := by
        intro b'
        simp only [putRow, mapBlock, Sort.ahead, Array.getElem?_modify]
        by_cases hb' : p.blk = b'
        · subst hb'
          simp [harr, onCells]
        · simp [hb', Ne.symm hb']
      have hs1 : (putRow enc (Sort.ahead w n) p.blk 0 (sort zs).toArray).heap.size = w.heap.size := by simp [putRow, mapBlock, Sort.ahead]
      have hother : ∀ b', b' ≠ p.blk → (putRow enc (Sort.ahead w n) p.blk 0 (sort zs).toArray).heap[b']? = w.heap[b']? := fun b' hb' => by rw [hmb, if_neg hb']
      have sr1 := hs.write b _ p hS hp hs1 hother (fun a v ha => by
        rw [← hs.phi a v ha]
        exact cell_same (hother _ (hphi a v ha))) (.cells 1 ((sort zs).map fun z => [encD z])) (by
        refine ⟨hpk, hoff, by simp only [List.length_map]; omega, fun r hr => ?_, hphi, _, el, (hmb p.blk).trans (if_pos rfl), by simpa [putCells] using hasz, fun i j hi hj => ?_⟩
        · obtain ⟨z, _, rfl⟩ := List.mem_map.1 hr
          rfl
        · simp only [List.length_map] at hi
          have hj : j = 0 := by omega
          subst hj
          have hi2 : i < arr.size := by omega
          have hg : ((((sort zs).map fun z => [encD z]).getD i []).getD 0 .nilp) = encD ((sort zs)[i]) := by simp [List.getD_eq_getElem?_getD, hi]
          have hv : (putCells enc 0 (sort zs).toArray arr).getD (i * 1 + 0) undef = enc ((sort zs)[i]) := by
            simp [putCells, Array.getD, hi2, hi]
          rw [hg, hv]
          exact hrep _ _ _)
      have t1 : Trans S.nx φ ρ S w φ ρ (S.put b _) (putRow enc (Sort.ahead w n) p.blk 0 (sort zs).toArray) := Trans.write S.nx b _ p hS hp hs1 rfl rfl rfl (Nat.le_add_right _ _) hother (some (.cells 1 ((sort zs).map fun z => [encD z])))
      have hsz2 : (putRow enc (Sort.ahead w n) p.blk 0 (sort zs).toArray).heap.size ≤ (grow (putRow enc (Sort.ahead w n) p.blk 0 (sort zs).toArray) os).heap.size := by simp [grow]
      have hold : ∀ b', b' < (putRow enc (Sort.ahead w n) p.blk 0 (sort zs).toArray).heap.size → (grow (putRow enc (Sort.ahead w n) p.blk 0 (sort zs).toArray) os).heap[b']? = (putRow enc (Sort.ahead w n) p.blk 0 (sort zs).toArray).heap[b']? := fun b' hb' => by
        simp only [grow]
        exact Array.getElem?_append_left hb'
      exact ⟨.tup [], φ, ρ, _, ⟨rfl, rfl⟩, .tup #[] [] rfl (by simp), sr1.more hsz2 hold, t1.trans (Trans.more _ hsz2 hold rfl rfl rfl (Nat.le_refl _))⟩
end Go.Proofs.YtfmicbbflpkdgaaGreatDoor.D
/-
  The D machine, part G: values that bear no names; calls that leave nothing behind.
-/
namespace Go.Proofs.YtfmicbbflpkdgaaGreatDoor.D
open Go.RowKit
variable {P : Program} {G : List (List DV)} {φ φ' : Phi} {ρ ρ' : Rho} {S S' : DS} {w w' : World} {e : Env}
inductive Closed : DV → Prop
  | bool (b : Bool) : Closed (.bool b)
  | int (k : IntKind) (n : Int) : Closed (.int k n)
  | str (s : List Nat) : Closed (.str s)
  | nilp : Closed .nilp
  | iptr (row : List DV) (o : Nat) (h : ∀ c, c ∈ row → Closed c) : Closed (.iptr row o)
  | isl (k : Nat) (nf : Option Bool) (rows : List (List DV)) (ex : Bool) (h : ∀ r, r ∈ rows → ∀ c, c ∈ r → Closed c) : Closed (.isl k nf rows (match ex with | true => .ex | false => .no))
  | nilm : Closed .nilm
  | func (f : Nat) (a b : List DV) (h1 : ∀ c, c ∈ a → Closed c) (h2 : ∀ c, c ∈ b → Closed c) : Closed (.func f a b)
  | nilf : Closed .nilf
  | iface (t : Nat) (v : DV) (h : Closed v) : Closed (.iface t v)
  | nili : Closed .nili
  | agg (cs : List DV) (h : ∀ c, c ∈ cs → Closed c) : Closed (.agg cs)
  | tup (cs : List DV) (h : ∀ c, c ∈ cs → Closed c) : Closed (.tup cs)
theorem Closed.isl_no {k : Nat} {nf : Option Bool} {rows : List (List DV)} (h : ∀ r, r ∈ rows → ∀ c, c ∈ r → Closed c) : Closed (.isl k nf rows .no) := .isl k nf rows false h
theorem Closed.isl_ex {k : Nat} {nf : Option Bool} {rows : List (List DV)} (h : ∀ r, r ∈ rows → ∀ c, c ∈ r → Closed c) : Closed (.isl k nf rows .ex) := .isl k nf rows true h
def allB {α : Type} (p : α → Bool) : List α → Bool
  | [] => true
  | x :: l => match p x with | true => allB p l | false => false
theorem allB_iff {α : Type} {p : α → Bool} : ∀ {l : List α}, allB p l = true → ∀ x, x ∈ l → p x = true
  | [], _, x, hx => by simp at hx
  | y :: l, h, x, hx => by
    simp only [allB] at h
    split at h
    · rename_i hy
      rcases List.mem_cons.1 hx with rfl | hx
      · exact hy
      · exact allB_iff h x hx
    · cases h
def closedB : Nat → DV → Bool
  | 0, _ => false
  | Nat.succ n, d => match d with
    | .bool _ | .int _ _ | .str _ | .nilp | .nilm | .nilf | .nili => true
    | .iptr row _ => allB (closedB n) row
    | .isl _ _ rows tl => (match tl with | .tk _ _ => false | _ => allB (allB (closedB n)) rows)
    | .func _ a b => (match allB (closedB n) a with | true => allB (closedB n) b | false => false)
    | .iface _ v => closedB n v
    | .agg cs | .tup cs => allB (closedB n) cs
    | _ => false
theorem closedB_ok : ∀ (n : Nat) (d : DV), closedB n d = true → Closed d
  | 0, _, h => by simp [closedB] at h
  | n + 1, d, h => by
    have ih : ∀ {l : List DV}, allB (closedB n) l = true → ∀ c, c ∈ l → Closed c := fun h c hc => closedB_ok n c (allB_iff h c hc)
    cases d <;> simp only [closedB] at h <;> first | (cases h; done) | skip
    case bool b => exact .bool b
    case int k n => exact .int k n
    case str s => exact .str s
    case nilp => exact .nilp
    case nilm => exact .nilm
    case nilf => exact .nilf
    case nili => exact .nili
    case iptr row o => exact .iptr row o (ih h)
    case isl k nf rows tl =>
      cases tl with
      | tk t i => cases h
      | no => exact .isl_no fun r hr => ih (allB_iff h r hr)
      | ex => exact .isl_ex fun r hr => ih (allB_iff h r hr)
    case func f a b =>
      split at h
      · rename_i ha
        exact .func f a b (ih ha) (ih h)
      · cases h
    case iface t v => exact .iface t v (closedB_ok n v h)
    case agg cs => exact .agg cs (ih h)
    case tup cs => exact .tup cs (ih h)
theorem mem_getD {α : Type} {l : List α} {i : Nat} {d : α} (h : i < l.length) : l.getD i d ∈ l := by
  rw [List.getD_eq_getElem?_getD, List.getElem?_eq_getElem h]
  exact List.getElem_mem h
theorem Rep.closed {v : Value} {d : DV} (h : Rep φ ρ v d) : Closed d → Rep φ ρ' v d := by
  induction h with
  | bool b => exact fun _ => .bool b
  | int k n => exact fun _ => .int k n
  | str s l h => exact fun _ => .str s l h
  | nilp => exact fun _ => .nilp
  | ptr b i o p h => intro hc; cases hc
  | iptr a row o c h1 h2 ih =>
    intro hc
    cases hc with
    | iptr _ _ hr => exact .iptr a row o c h1 fun j hj => ih j hj (hr _ (mem_getD hj))
  | isl a n C k nf rows tl c hn hC hk hnf hz hc hr ht ih =>
    intro hcl
    generalize hd : DV.isl k nf rows tl = d at hcl
    cases hcl with
    | isl k' nf' rows' ex hrw =>
      injection hd with h1 h2 h3 h4
      subst h1 h2 h3 h4
      refine .isl a n C _ _ _ _ c hn hC hk hnf hz hc (fun i j hi hj => ih i j hi hj ?_) ?_
      · have hi' : i < rows.length := by omega
        have hm := mem_getD (l := rows) (d := []) hi'
        exact hrw _ hm _ (mem_getD (by rw [hk _ hm]; exact hj))
      · cases ex with
        | true => exact ht
        | false => trivial
    | _ => cases hd
  | sl a b i n C cap p h hC h1 h2 ha => intro hc; cases hc
  | nilm => exact fun _ => .nilm
  | map m p h => intro hc; cases hc
  | it m p h => intro hc; cases hc
  | func f A B fa fb hA hB h1 h2 ih1 ih2 =>
    intro hc
    cases hc with
    | func _ _ _ g1 g2 => exact .func f A B fa fb hA hB (fun i hi => ih1 i hi (g1 _ (mem_getD hi))) (fun i hi => ih2 i hi (g2 _ (mem_getD hi)))
  | nilf => exact fun _ => .nilf
  | iface t v d h ih =>
    intro hc
    cases hc with
    | iface _ _ g => exact .iface t v d (ih g)
  | nili => exact fun _ => .nili
  | agg A cs hA h ih =>
    intro hc
    cases hc with
    | agg _ g => exact .agg A cs hA fun i hi => ih i hi (g _ (mem_getD hi))
  | tup A cs hA h ih =>
    intro hc
    cases hc with
    | tup _ g => exact .tup A cs hA fun i hi => ih i hi (g _ (mem_getD hi))
def S0 : DS := ⟨fun _ => none, 0⟩
def GOk (G : List (List DV)) : Prop := ∀ r, r ∈ G → ∀ c, c ∈ r → Closed c
/-- A call whose arguments and result bear no names leaves nothing behind. -/
def Val (P : Program) (G : List (List DV)) (f : Nat) (args : List DV) (V : DV → Prop) : Prop := ∀ S, DCalls P G f args S fun d D => V d ∧ D = S
theorem not_own0 {b : Nat} : ¬ Own ρ S0 b := fun ⟨_, _, _, h, _⟩ => by cases h
theorem DCalls.closed {f : Nat} {args : List DV} {V : DV → Prop} (hg : GOk G) (ha : ∀ c, c ∈ args → Closed c) (hV : ∀ d, V d → Closed d) (h : DCalls P G f args S0 fun d _ => V d) : Val P G f args V := by
  intro S
  refine ⟨h.1, fun φ ρ w va hs hva => ?_⟩
  have sr0 : SR G φ (fun _ => none) S0 w := ⟨hs.phi, fun id o ho => (by cases ho), fun id id' o o' p p' ho => (by cases ho), fun id p hp => (by cases hp), fun g row hr => (hs.glob g row hr).closed (.iptr row 0 (hg row (by
    rw [nth_eq] at hr
    exact List.mem_of_getElem? hr)))⟩
  refine (h.2 φ (fun _ => none) w va sr0 ⟨hva.1, fun i hi => (hva.2 i hi).closed (ha _ (mem_getD hi))⟩).mono fun x w' hx => ?_
  cases x with
  | returned v =>
    obtain ⟨d, φ', ρ', D, h1, h2, h3, h4⟩ := hx
    refine ⟨d, φ', ρ, S, ⟨h1, rfl⟩, h2.closed (hV d h1), ⟨h3.phi, fun id o ho => ?_, hs.inj, fun id p hp => ⟨(hs.dom id p hp).1, Nat.lt_of_lt_of_le (hs.dom id p hp).2 h4.size⟩, fun g row hr => (hs.glob g row hr).mono h4.phi (RhoLe.refl _)⟩,
      ⟨h4.phi, RhoLe.refl _, fun _ _ => rfl, Nat.le_refl _, h4.size, h4.os, h4.tape, h4.output, fun b hb _ => h4.frame b hb not_own0, fun _ h => .inr h, fun a u hu => ?_, h4.drawn⟩⟩
    · obtain ⟨p, g1, g2⟩ := hs.heap id o ho
      have hlt := (hs.dom id p g1).2
      refine ⟨p, g1, g2.step (h4.frame p.blk hlt not_own0) h4.phi (RhoLe.refl _) fun a u hu hb => ?_⟩
      rcases h4.news a u hu with h | h | h
      · exact h
      · omega
      · exact absurd h not_own0
    · rcases h4.news a u hu with h | h | h
      · exact .inl h
      · exact .inr (.inl h)
      · exact absurd h not_own0
  | panicked c => exact hx
  | outgrown => exact hx
theorem Val.mono {f : Nat} {args : List DV} {V V' : DV → Prop} (h : Val P G f args V) (hv : ∀ d, V d → V' d) : Val P G f args V' := fun S => (h S).mono fun d _ ⟨h1, h2⟩ => ⟨hv d h1, h2⟩
/-- The rule of a function that leaves nothing behind. -/
theorem Val.of_wp (hg : GOk G) {T : Nat → Option DF} (ht : TabOk P G T) {f : Nat} {df : DF} {args : List DV} {V : DV → Prop} (hf : T f = some df) (ha : ∀ c, c ∈ args → Closed c) (hV : ∀ d, V d → Closed d)
    (h : wpC P G df.body (RetP P G df.res df.mode fun d _ => V d) noX (RetP P G df.res df.mode fun d _ => V d) (envA args) S0 []) : Val P G f args V :=
  DCalls.closed hg ha hV (DCalls.of_wp ht.mixed (ht.tab f df hf) h)
end Go.Proofs.YtfmicbbflpkdgaaGreatDoor.D
