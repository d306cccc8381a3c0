/- One operation at its place. -/
import Derived.Test.YtippafigppeblaaGreatSacX
namespace Go.Sac
set_option linter.unusedVariables false
set_option linter.unusedSimpArgs false
open Go

/-- What a frame is, for the evaluator. -/
structure FOk (X : Ctx) (b : Frame) (cs : Callers) (up : Up) : Prop where
  fn : b.fn = X.fn
  round : X.round = b.roundOf.isSome
  dk : X.dk = true → b.kind = .deferred ∧ b.roundOf = none ∧ ∃ (c : Frame) (rest : List Frame), cs none = { c with mode := .returning } :: rest ∧
    ∀ v r, cs (some (v, r)) = { c with mode := .panicking [{ v := up.v, recovered := r }] } :: rest
  nk : X.dk = false → b.kind = .normal ∧ ∀ p q, cs p = cs q

def wantedA (all : Array Oper) (o : Oper) (e : Env) : Option Bool :=
  match o.guard with
  | none => some true
  | some (j, want) => match yieldedA all e j with
    | .bool b => some (b == want)
    | .tup [] => some false
    | _ => none

theorem guardP_eq {all : Array Oper} {o : Oper} {e : Env} {x : Option AV} : (match o.guard with
    | none => x
    | some (j, want) => guardP (yieldedA all e j) want x) = (match wantedA all o e with | some true => x | some false => some undefA | none => none) := by
  unfold wantedA
  cases o.guard with
  | none => rfl
  | some p =>
    obtain ⟨j, want⟩ := p
    simp only
    cases yieldedA all e j <;> simp only [guardP]
    case bool b => cases b == want <;> rfl
    case tup vs => cases vs <;> rfl

theorem guardC_eq {all : Array Oper} {o : Oper} {e : Env} {S : St} {x : R} : (match o.guard with
    | none => x
    | some (j, want) => guardC (yieldedA all e j) want S x) = (match wantedA all o e with | some true => x | some false => some (.ret undefA, S) | none => none) := by
  unfold wantedA
  cases o.guard with
  | none => rfl
  | some p =>
    obtain ⟨j, want⟩ := p
    simp only
    cases yieldedA all e j <;> simp only [guardC]
    case bool b => cases b == want <;> rfl
    case tup vs => cases vs <;> rfl

theorem wanted_ok {all : Array Oper} {o : Oper} {n : Nat} {up : Up} {G : Gh} {S : St} {w : World} {e : Env} {a : Act} (p : Pt n up G S w e a) {t : Bool} (h : wantedA all o e = some t) :
    Region.wanted o (yielded all a.tmps) = t := by
  unfold wantedA at h
  unfold Region.wanted
  cases hg : o.guard with
  | none => rw [hg] at h; simp at h; simp [h]
  | some q =>
    obtain ⟨j, want⟩ := q
    rw [hg] at h
    simp only at h ⊢
    unfold yieldedA at h
    unfold yielded
    cases hd : (all[j]?).bind (·.dst) with
    | none => rw [hd] at h; simp at h
    | some d =>
      rw [hd] at h
      simp only at h
      have r := p.tmps d
      simp only [Option.bind_some]
      split at h
      · rename_i bb hb
        rw [hb] at r; simp only [Rel] at r
        simp at h; subst h
        rw [Array.getD_eq_getD_getElem?] at r
        cases hv : a.tmps[d]? with
        | none => rw [hv] at r; simp [undef] at r
        | some v => rw [hv] at r; simp at r; subst r; rfl
      · rename_i hb
        rw [hb] at r
        obtain ⟨vs, r, r2⟩ := r
        simp only [RelL] at r2
        simp at h; subst h
        rw [Array.getD_eq_getD_getElem?] at r
        cases hv : a.tmps[d]? with
        | none => simp
        | some v => rw [hv] at r; simp at r; subst r; simp
      · cases h

section
variable {X : Ctx} {b : Frame} {cs : Callers} {up : Up} {n : Nat} {Q : Machine → Prop} {G : Gh} {S : St} {w : World} {e : Env} {a : Act} {all : Array Oper} {o : Oper} {i : Nat} {rest : List Nat} {kk : List Item}

theorem semAt_plain (h : ∀ c, o.op ≠ .defer c) (ρ : Operand → Value) : o.semAt b.roundOf ρ = execOp ρ o := Oper.semAt_eq _ _ _ h

theorem From.put {G' : Gh} {S' : St} {w' : World} (p : Pt n up G S w e a) (st : Step G S w G' S' w') (i : Inv G' S' w') (hp : S'.pan = S.pan) (hd : ∀ d, o.dst = some d → d < n) {v : AV} {u : Value} (r : Rel G' v u) :
    From n up (fun j => o.dst = some j) G S w e G' S' w' (e.put o.dst v) (a.put o.dst u) := by
  refine ⟨st, p.put st.toMono i hp hd r, fun j hj => ?_⟩
  cases hdst : o.dst with
  | none => rfl
  | some d =>
    simp only [Env.put, Env.set]
    have : Nat.beq j d = false := by
      cases hb : Nat.beq j d
      · rfl
      · exact (hj (by rw [hdst]; simpa using (by simpa using hb : j = d).symm)).elim
    simp [this]

/-- An operation that leaves the state alone. -/
theorem pureStep (hQ : Closed X.P Q) (ho : all[i]? = some o) (hdf : ∀ c, o.op ≠ .defer c) (p : Pt n up G S w e a) (hd : ∀ d, o.dst = some d → d < n) {v : AV}
    (h : (match o.guard with
        | none => pureOp X.P o.op e S
        | some (j, want) => guardP (yieldedA all e j) want (pureOp X.P o.op e S)) = some v)
    (hk : ∀ G' w' a', From n up (fun j => o.dst = some j) G S w e G' S w' (e.put o.dst v) a' → Q (lone (b.atR a' (.inRegion all rest :: kk)) (cs S.pan) w')) :
    Q (lone (b.atR a (.inRegion all (i :: rest) :: kk)) (cs S.pan) w) := by
  rw [guardP_eq] at h
  split at h
  · rename_i hw
    obtain ⟨cv, G', w', h1, h2, h3, h4⟩ := pure_ok p.inv p.ev h
    exact hQ _ _ (op_value ho (wanted_ok p hw) (by rw [semAt_plain hdf]; exact h1)) (hk G' w' _ (From.put p h4 h3 rfl hd h2))
  · rename_i hw
    cases h
    have hs := stepR_op_skip (P := X.P) (b := b) (a := a) (k := kk) (cs := cs S.pan) (w := w) (ops := all) (i := i) (rest := rest) (by simp [ho, wanted_ok p hw])
    refine hQ _ _ hs ?_
    rw [ho]
    exact hk G w _ (From.put p (Step.refl G S w) p.inv rfl hd (undef_rel G))
  · cases h

end
end Go.Sac
