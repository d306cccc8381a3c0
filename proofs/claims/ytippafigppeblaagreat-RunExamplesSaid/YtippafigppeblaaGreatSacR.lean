/- The machine at the place where the evaluator is: frames, goals, single steps. -/
import Derived.Test.YtippafigppeblaaGreatSacQ
namespace Go.Sac
set_option linter.unusedVariables false
set_option linter.unusedSimpArgs false
open Go

/-- A goal that may be reached by steps. -/
def Closed (P : Program) (Q : Machine → Prop) : Prop := ∀ m m', step P m = .next m' → Q m' → Q m

/-- A frame's deferred calls. -/
def RelD (G : Gh) : List ADef → List Deferred → Prop
  | [], l => l = []
  | .mark o :: ds, l => ∃ r rest, l = { target := .collected r, args := #[] } :: rest ∧ (G.obj o = .at r ∨ G.obj o = .dead) ∧ RelD G ds rest
  | .call f args :: ds, l => ∃ i a c va vc vargs rest, f = .func i a c ∧ l = { target := .fn (.func i) vc, args := va ++ vargs } :: rest ∧ RelL G a va.toList ∧ RelL G c vc.toList ∧ RelL G args vargs.toList ∧ RelD G ds rest

theorem RelD.mono {G G' : Gh} (h : Mono G G') : ∀ {ds : List ADef} {l : List Deferred}, RelD G ds l → RelD G' ds l
  | [], _, k => k
  | .mark o :: ds, _, k => by
    obtain ⟨r, rest, rfl, q, k⟩ := k
    exact ⟨r, rest, rfl, q.elim (fun e => h.obj _ _ e) fun e => .inr (h.dead _ e), k.mono h⟩
  | .call f args :: ds, _, k => by
    obtain ⟨i, a, c, va, vc, vargs, rest, rfl, rfl, q1, q2, q3, k⟩ := k
    exact ⟨i, a, c, va, vc, vargs, rest, rfl, rfl, RelL.mono h _ _ q1, RelL.mono h _ _ q2, RelL.mono h _ _ q3, k.mono h⟩

/-- The value of the panic that a frame unwinds, in the model and here. -/
structure Up where
  v : Value
  p : Option AV

/-- The evaluator's place and the frame's. -/
structure Pt (n : Nat) (up : Up) (G : Gh) (S : St) (w : World) (e : Env) (a : Act) : Prop where
  inv : Inv G S w
  tmps : RelT G e.t a.tmps
  size : a.tmps.size = n
  defs : RelD G e.d a.defers
  pan : ∀ v r, S.pan = some (v, r) → Rel G v up.v
  shape : S.pan.map (·.1) = up.p

theorem Pt.ev {n : Nat} {up : Up} {G : Gh} {S : St} {w : World} {e : Env} {a : Act} (h : Pt n up G S w e a) : EvOk G e a.eval := ev_rel h.tmps

theorem Pt.put {n : Nat} {up : Up} {G G' : Gh} {S S' : St} {w w' : World} {e : Env} {a : Act} (h : Pt n up G S w e a) (m : Mono G G') (i : Inv G' S' w') (hp : S'.pan = S.pan) {dst : Option Nat} (hd : ∀ d, dst = some d → d < n) {v : AV} {u : Value} (r : Rel G' v u) :
    Pt n up G' S' w' (e.put dst v) (a.put dst u) := by
  have pn : ∀ v r, S'.pan = some (v, r) → Rel G' v up.v := fun v r e => Rel.mono m _ _ (h.pan v r (by rw [← hp]; exact e))
  cases dst with
  | none => exact ⟨i, h.tmps.mono m, h.size, h.defs.mono m, pn, by rw [hp]; exact h.shape⟩
  | some d =>
    have hlt := hd d rfl
    refine ⟨i, fun j => ?_, by simp [Act.put, h.size], h.defs.mono m, pn, by rw [hp]; exact h.shape⟩
    simp only [Env.put, Env.set, Act.put]
    by_cases q : j = d
    · subst q
      have : Nat.beq j j = true := by simp
      simp only [this, cond_true]
      have hs : j < a.tmps.size := by rw [h.size]; exact hlt
      simpa [Array.getD_eq_getD_getElem?, hs] using r
    · have : Nat.beq j d = false := by
        cases hb : Nat.beq j d
        · rfl
        · exact (q (by simpa using hb)).elim
      simp only [this, cond_false]
      have := Rel.mono m _ _ (h.tmps j)
      simpa [Array.getD_eq_getD_getElem?, Array.getElem?_setIfInBounds, Ne.symm q] using this

theorem undef_rel (G : Gh) : Rel G undefA undef := ⟨_, rfl, rfl⟩

/-- What holds of a later place: what has become of the state, and which slots have not turned. -/
structure From (n : Nat) (up : Up) (W : Nat → Prop) (G : Gh) (S : St) (w : World) (e : Env) (G' : Gh) (S' : St) (w' : World) (e' : Env) (a' : Act) : Prop where
  step : Step G S w G' S' w'
  pt : Pt n up G' S' w' e' a'
  agree : ∀ i, ¬ W i → e'.t i = e.t i

theorem From.trans {n : Nat} {up : Up} {W : Nat → Prop} {G G1 G2 : Gh} {S S1 S2 : St} {w w1 w2 : World} {e e1 e2 : Env} {a1 a2 : Act} (h : From n up W G S w e G1 S1 w1 e1 a1) (k : From n up W G1 S1 w1 e1 G2 S2 w2 e2 a2) :
    From n up W G S w e G2 S2 w2 e2 a2 := ⟨h.step.trans k.step, k.pt, fun i q => (k.agree i q).trans (h.agree i q)⟩

theorem From.weak {n : Nat} {up : Up} {W W' : Nat → Prop} {G G1 : Gh} {S S1 : St} {w w1 : World} {e e1 : Env} {a1 : Act} (h : From n up W G S w e G1 S1 w1 e1 a1) (hw : ∀ i, W i → W' i) :
    From n up W' G S w e G1 S1 w1 e1 a1 := ⟨h.step, h.pt, fun i q => h.agree i fun k => q (hw i k)⟩

abbrev Callers := Option (AV × Bool) → List Frame

/-- The continuations reach the goal. -/
structure KOk (Q : Machine → Prop) (r : Ans × St) (b : Frame) (cs : Callers) (n : Nat) (up : Up) (k : List Item) (W : Nat → Prop) (G : Gh) (S : St) (w : World) (e : Env) (K : Kont) : Prop where
  normal : ∀ G' S' w' e' a', From n up W G S w e G' S' w' e' a' → K.normal e' S' = some r → Q (lone (b.atR a' k) (cs S'.pan) w')
  ret : ∀ G' S' w' e' a', From n up W G S w e G' S' w' e' a' → K.ret e' S' = some r → ∀ k', Q (lone (b.atR a' (.code .ret :: k')) (cs S'.pan) w')
  exit : ∀ j G' S' w' e' a', From n up W G S w e G' S' w' e' a' → K.exit j e' S' = some r → ∀ k', exitTo j k' = exitTo j k → Q (lone (b.atR a' (.code (.exit j) :: k')) (cs S'.pan) w')
  goto : ∀ l G' S' w' e' a', From n up W G S w e G' S' w' e' a' → K.goto l e' S' = some r → ∀ k', gotoIn l k' = gotoIn l k → Q (lone (b.atR a' (.code (.goto l) :: k')) (cs S'.pan) w')
  panic : ∀ v u G' S' w' e' a', From n up W G S w e G' S' w' e' a' → K.panic v e' S' = some r → Rel G' v u → ∀ k', Q (lone { b.atR a' k' with mode := .panicking [{ v := u, recovered := false }] } (cs S'.pan) w')

theorem KOk.shift {Q : Machine → Prop} {r : Ans × St} {b : Frame} {cs : Callers} {n : Nat} {up : Up} {k : List Item} {W W' : Nat → Prop} {G G1 : Gh} {S S1 : St} {w w1 : World} {e e1 : Env} {a1 : Act} {K : Kont}
    (h : KOk Q r b cs n up k W G S w e K) (f : From n up W G S w e G1 S1 w1 e1 a1) (hw : ∀ i, W' i → W i) : KOk Q r b cs n up k W' G1 S1 w1 e1 K where
  normal G' S' w' e' a' g := h.normal G' S' w' e' a' (f.trans (g.weak hw))
  ret G' S' w' e' a' g := h.ret G' S' w' e' a' (f.trans (g.weak hw))
  exit j G' S' w' e' a' g := h.exit j G' S' w' e' a' (f.trans (g.weak hw))
  goto l G' S' w' e' a' g := h.goto l G' S' w' e' a' (f.trans (g.weak hw))
  panic v u G' S' w' e' a' g := h.panic v u G' S' w' e' a' (f.trans (g.weak hw))

section
variable {P : Program} {b : Frame} {a : Act} {k : List Item} {cs : List Frame} {w w' : World} {ops : Array Oper} {i : Nat} {rest : List Nat} {o : Oper}

theorem fin_at (ho : ops[i]? = some o) (v : Value) : (b.atR a (.inRegion ops (i :: rest) :: k)).finish v = b.atR (a.put o.dst v) (.inRegion ops rest :: k) := by
  rw [Frame.finish_atR, ho]; rfl

theorem op_value (ho : ops[i]? = some o) (hw : Region.wanted o (yielded ops a.tmps) = true) {v : Value} (hr : (o.semAt b.roundOf a.eval).run P w = .ok (.value v) w') :
    step P (lone (b.atR a (.inRegion ops (i :: rest) :: k)) cs w) = .next (lone (b.atR (a.put o.dst v) (.inRegion ops rest :: k)) cs w') := by
  have hg := stepGR_op (P := P) (b := b) (k := k) (cs := cs) (w := w) (rest := rest) ho hw
  refine step_lone_go ?_
  rw [hg, ← fin_at ho]; simp [stepG.apply, hr]

theorem op_skip (ho : ops[i]? = some o) (hw : Region.wanted o (yielded ops a.tmps) = true) (hr : (o.semAt b.roundOf a.eval).run P w = .ok .skip w') :
    step P (lone (b.atR a (.inRegion ops (i :: rest) :: k)) cs w) = .next (lone (b.atR (a.put o.dst undef) (.inRegion ops rest :: k)) cs w') := by
  have hg := stepGR_op (P := P) (b := b) (k := k) (cs := cs) (w := w) (rest := rest) ho hw
  refine step_lone_go ?_
  rw [hg, ← fin_at ho]; simp [stepG.apply, hr]

theorem op_enter (ho : ops[i]? = some o) (hw : Region.wanted o (yielded ops a.tmps) = true) {f : FuncId} {args : Array Value} (hr : (o.semAt b.roundOf a.eval).run P w = .ok (.enter f args) w') :
    step P (lone (b.atR a (.inRegion ops (i :: rest) :: k)) cs w) = .next (lone (Frame.enter P f args .normal) (b.atR a (.inRegion ops (i :: rest) :: k) :: cs) w') := by
  have hg := stepGR_op (P := P) (b := b) (k := k) (cs := cs) (w := w) (rest := rest) ho hw
  refine step_lone_go ?_
  rw [hg]; simp [stepG.apply, hr, Frame.atR]

theorem op_round (ho : ops[i]? = some o) (hw : Region.wanted o (yielded ops a.tmps) = true) {l f : Nat} {tmps : Array Value} {c d : Code} (hr : (o.semAt b.roundOf a.eval).run P w = .ok (.round l f tmps c d) w') :
    step P (lone (b.atR a (.inRegion ops (i :: rest) :: k)) cs w) = .next (lone (Frame.round l f tmps c d .normal) (b.atR a (.inRegion ops (i :: rest) :: k) :: cs) w') := by
  have hg := stepGR_op (P := P) (b := b) (k := k) (cs := cs) (w := w) (rest := rest) ho hw
  refine step_lone_go ?_
  rw [hg]; simp [stepG.apply, hr, Frame.atR]

theorem op_defer (ho : ops[i]? = some o) (hw : Region.wanted o (yielded ops a.tmps) = true) {d : Deferred} (hr : (o.semAt b.roundOf a.eval).run P w = .ok (.defer d) w') :
    step P (lone (b.atR a (.inRegion ops (i :: rest) :: k)) cs w) = .next (lone (b.atR ({ a with defers := d :: a.defers }.put o.dst undef) (.inRegion ops rest :: k)) cs w') := by
  have hg := stepGR_op (P := P) (b := b) (k := k) (cs := cs) (w := w) (rest := rest) ho hw
  refine step_lone_go ?_
  have : ({ b.atR a (.inRegion ops (i :: rest) :: k) with defers := d :: a.defers } : Frame).finish undef = b.atR ({ a with defers := d :: a.defers }.put o.dst undef) (.inRegion ops rest :: k) := by
    rw [← fin_at ho]; rfl
  rw [hg, ← this]; simp [stepG.apply, hr, Frame.atR]

theorem op_panic (ho : ops[i]? = some o) (hw : Region.wanted o (yielded ops a.tmps) = true) {v : Value} (hr : (o.semAt b.roundOf a.eval).run P w = .halt (.panic v) w') :
    step P (lone (b.atR a (.inRegion ops (i :: rest) :: k)) cs w) = .next (lone { b.atR a (.inRegion ops (i :: rest) :: k) with mode := .panicking [{ v, recovered := false }] } cs w') := by
  have hg := stepGR_op (P := P) (b := b) (k := k) (cs := cs) (w := w) (rest := rest) ho hw
  refine step_lone_go ?_
  rw [hg, ← Frame.raise_atR]; simp [stepG.apply, hr]

end

end Go.Sac
