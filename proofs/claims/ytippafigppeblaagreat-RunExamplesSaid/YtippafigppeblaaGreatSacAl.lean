/- Functions. -/
import Derived.Test.YtippafigppeblaaGreatSacAk
import Derived.Defers
namespace Go.Sac
set_option linter.unusedVariables false
set_option linter.unusedSimpArgs false
open Go

def resF (tmps : Array Value) : ResultVar → Sem Value
  | .tmp t => pure (tmps.getD t undef)
  | .cell a t => do loadVar t (← asAddr (tmps.getD a undef))

theorem results_eq (fn : Func) (tmps : Array Value) : results fn tmps = (do
    let vs ← fn.results.mapM (resF tmps)
    pure (if h : vs.size = 1 then vs[0] else .tuple vs)) := rfl

section
variable {P : Program} {G : Gh} {S : St} {w : World}

theorem resultsA_ok (inv : Inv G S w) {e : Env} {tmps : Array Value} (ht : RelT G e.t tmps) : ∀ {res : List ResultVar} {vs : List AV}, resultsA P e S res = some vs → ∃ us, (res.mapM (resF tmps)).run P w = .ok us w ∧ RelL G vs us
  | [], vs, h => by
    simp only [resultsA, Option.some.injEq] at h
    subst h
    exact ⟨[], by simp, rfl⟩
  | r :: rs, vs, h => by
    simp only [resultsA, Option.bind_eq_some_iff, Option.map_eq_some_iff] at h
    obtain ⟨v, h1, vs', h2, rfl⟩ := h
    obtain ⟨us, q1, q2⟩ := resultsA_ok inv ht h2
    have : ∃ u, (resF tmps r).run P w = .ok u w ∧ Rel G v u := by
      cases r with
      | tmp t =>
        simp only [resultA, Option.some.injEq] at h1
        subst h1
        exact ⟨tmps.getD t undef, by simp [resF], ht t⟩
      | cell c t =>
        simp only [resultA] at h1
        cases hs : (P.underlying t).isSome
        · simp [hs] at h1
        · simp only [hs, cond_true] at h1
          obtain ⟨d, hu⟩ := isSome_get hs
          simp only [oLoad, Option.bind_eq_some_iff] at h1
          obtain ⟨cs, h3, h4⟩ := h1
          obtain ⟨b, off, vs, hcv, rl, hl, hc, _⟩ := read_rel inv (ht c) h3
          obtain ⟨p1, p2⟩ := pack_rel hu h4 rl
          refine ⟨_, ?_, p1⟩
          simp only [resF, hcv]
          simp [asAddr, run_loadVar' hu hl p2 hc]
    obtain ⟨u, q3, q4⟩ := this
    exact ⟨u :: us, by simp [List.mapM_cons, q3, q1], u, us, rfl, q4, q2⟩

def packR : List AV → AV
  | [v] => v
  | vs => .tup vs

theorem results_ok (inv : Inv G S w) {e : Env} {tmps : Array Value} (ht : RelT G e.t tmps) {fn : Func} {vs : List AV} (h : resultsA P e S fn.results.toList = some vs) : ∃ u, (results fn tmps).run P w = .ok u w ∧ Rel G (packR vs) u := by
  obtain ⟨us, h1, h2⟩ := resultsA_ok inv ht h
  rw [results_eq]
  refine ⟨if h : us.toArray.size = 1 then us.toArray[0] else .tuple us.toArray, ?_, ?_⟩
  · simp [Array.mapM_eq_mapM_toList, h1]
  · match vs, us, h2 with
    | [], us, h2 =>
      simp only [RelL] at h2; subst h2
      exact ⟨#[], rfl, rfl⟩
    | [v], us, h2 =>
      obtain ⟨u, us', rfl, r, q⟩ := h2
      simp only [RelL] at q; subst q
      exact r
    | v :: v2 :: vs, us, h2 =>
      have hl := h2.length
      have : ¬ us.toArray.size = 1 := by simp only [List.size_toArray, ← hl, List.length_cons]; omega
      rw [dif_neg this]
      exact ⟨us.toArray, rfl, by simpa using h2⟩

theorem finish_pack (P : Program) (κ : Oracles) (res : List ResultVar) (e : Env) (S : St) : finish P κ res [] e S = (resultsA P e S res).map fun vs => (.ret (packR vs), S) := by
  simp only [finish]
  cases resultsA P e S res with
  | none => rfl
  | some vs =>
    cases vs with
    | nil => rfl
    | cons v vs => cases vs <;> rfl

end

/-- A deferred call. -/
structure DCallOk (P : Program) (κ : FuncId → List AV → St → R) : Prop where
  enter : ∀ f args S r, κ f args S = some r → ∃ fn c, P.funcs[f]? = some fn ∧ fn.body = some c ∧ fn.name ≠ "runtime.NumGoroutine"
  run : ∀ f args S v S', κ f args S = some (.ret v, S') → ∀ G w vargs, Inv G S w → RelL G args vargs.toList → ∀ up : Value, (∀ v r, S.pan = some (v, r) → Rel G v up) →
    ∀ (cs : Callers) (c : Frame) (rest : List Frame), cs none = { c with mode := .returning } :: rest → (∀ v r, cs (some (v, r)) = { c with mode := .panicking [{ v := up, recovered := r }] } :: rest) →
    ∀ Q, Closed P Q → (∀ G' w' fr u, Step G S w G' S' w' → Inv G' S' w' → S'.pan.map (·.1) = S.pan.map (·.1) → fr.kind = .deferred → fr.going P w' (.returned u) → Q (lone fr (cs S'.pan) w')) →
      Q (lone (Frame.enter P f vargs .deferred) (cs S.pan) w)

section
variable {P : Program} {Q : Machine → Prop} {b : Frame}

theorem step_mark {fr : Frame} {cs : List Frame} {w w' : World} {r : Nat} {ds : List Deferred} (hm : fr.mode ≠ .run) (hd : fr.defers = { target := .collected r, args := #[] } :: ds) (ht : (Instr.takeDeferred r).run P w = .ok [] w') :
    step P (lone fr cs w) = .next (lone { fr with defers := ds } cs w') := by
  refine step_lone_go ?_
  cases hmode : fr.mode with
  | run => exact absurd hmode hm
  | returning => simp [stepG, unwind, hmode, hd, Sem.runT_eq, ht, GStep.bare_after]
  | panicking chain => simp [stepG, unwind, hmode, hd, Sem.runT_eq, ht, GStep.bare_after]

theorem take_ok {G : Gh} {S : St} {w : World} (inv : Inv G S w) {o r : Nat} (ho : S.objs[o]? = some (.dfr false)) (hg : G.obj o = .at r ∨ G.obj o = .dead) :
    ∃ w', (Instr.takeDeferred r).run P w = .ok [] w' ∧ Inv G (S.setObj o (.dfr true)) w' ∧ Step G S w G (S.setObj o (.dfr true)) w' := by
  rcases hg with hg | hg
  · obtain ⟨x, h1, h2⟩ := inv.obj o r hg
    rw [ho] at h1; cases h1
    have h2 : w.heap[r]? = some (.deferred (some [])) := h2
    have hlt : r < w.heap.size := (Array.getElem?_eq_some_iff.1 h2).1
    refine ⟨{ w with heap := w.heap.setIfInBounds r (.deferred none) }, ?_, ?_⟩
    · have hs : (setObj r (.deferred none)).run P w = .ok () { w with heap := w.heap.setIfInBounds r (.deferred none) } := by simp [setObj, Sem.run, h2]
      have hg : (getObj r).run P w = .ok (.deferred (some [])) w := by simp [getObj, Sem.run, h2]
      simp [Instr.takeDeferred, hg, hs]
    · refine inv.turn hg _ (by simp) ?_ ?_ ?_ rfl rfl rfl
      · intro d hd
        rw [Array.getElem?_setIfInBounds, if_neg (Ne.symm hd)]
      · show (w.heap.setIfInBounds r (.deferred none))[r]? = some (.deferred none)
        rw [Array.getElem?_setIfInBounds, if_pos rfl]; simp [hlt]
      · intro d e f hd
        rw [Array.getElem?_setIfInBounds, if_pos rfl] at hd; simp [hlt] at hd
  · rw [inv.dead o hg] at ho; cases ho

theorem run_deferred {i : FuncId} {vc args : Array Value} {fn : Func} {c : Code} (h1 : P.funcs[i]? = some fn) (h2 : fn.body = some c) (h3 : fn.name ≠ "runtime.NumGoroutine") (w : World) : (invoke (.fn (.func i) vc) args).run P w = .ok (.enter i (args ++ vc)) w := by
  have := run_callFunc h1 h2 h3 (args ++ vc) w
  simpa [invoke] using this

def modeOf (up : Value) : Option (AV × Bool) → FrameMode
  | none => .returning
  | some (_, r) => .panicking [{ v := up, recovered := r }]

theorem settle_mode (up : Value) (p : Option (AV × Bool)) : settle (modeOf up p) = match p with
    | some (_, false) => .panicking [{ v := up, recovered := false }]
    | _ => .returning := by
  cases p with
  | none => rfl
  | some q => obtain ⟨v, r⟩ := q; cases r <;> rfl

/-- One deferred call, from a frame that returns or unwinds. -/
theorem dcall_step {κd : FuncId → List AV → St → R} (hd : DCallOk P κd) (hQ : Closed P Q) {f : FuncId} {args : List AV} {G : Gh} {S S' : St} {w : World} {v : AV} (h : κd f args S = some (.ret v, S')) (inv : Inv G S w) {vc dargs : Array Value} (rr : RelL G args (dargs ++ vc).toList)
    {up : Value} (hup : ∀ v r, S.pan = some (v, r) → Rel G v up) {fr : Frame} {cs : List Frame} {ds : List Deferred} (hm : fr.mode = modeOf up S.pan) (hfd : fr.defers = { target := .fn (.func f) vc, args := dargs } :: ds)
    (hk : ∀ G' w', Step G S w G' S' w' → Inv G' S' w' → S'.pan.map (·.1) = S.pan.map (·.1) → Q (lone { fr with defers := ds, mode := settle (modeOf up S'.pan) } cs w')) : Q (lone fr cs w) := by
  obtain ⟨fn, c, h1, h2, h3⟩ := hd.enter _ _ _ _ h
  have hnr : fr.mode ≠ .run := by
    rw [hm]
    cases S.pan with
    | none => exact fun q => by cases q
    | some q => exact fun q => by cases q
  refine hQ _ _ (step_defer hnr hfd rfl (run_deferred h1 h2 h3 w)) ?_
  have := hd.run f args S v S' h G w (dargs ++ vc) inv rr up hup (fun p => { fr with defers := ds, mode := modeOf up p } :: cs) { fr with defers := ds } cs rfl (fun _ _ => rfl) Q hQ fun G' w' fr' u st i hsh hk' hgo => by
    exact hQ _ _ (step_going_returned hk' hgo) (hk G' w' st i hsh)
  rw [← hm] at this
  exact this

/-- How a function ends that returns. -/
theorem finish_ok {κ : Oracles} (hd : DCallOk P κ.dcall) (hQ : Closed P Q) {fn : Func} {r : Ans × St} {cs : List Frame} {G0 : Gh} {S0 : St} {w0 : World} {p : Option (AV × Bool)}
    (hend : ∀ G S w a k v u, Step G0 S0 w0 G S w → Inv G S w → S.pan = p → Rel G v u → r = (.ret v, S) → a.defers = [] → (results fn a.tmps).run P w = .ok u w → Q (lone { b.atR a k with mode := .returning } cs w)) :
    ∀ (ds : List ADef) {G : Gh} {S : St} {w : World} {e : Env} {a : Act} {k : List Item}, Step G0 S0 w0 G S w → Inv G S w → S.pan = p → RelT G e.t a.tmps → RelD G ds a.defers → finish P κ fn.results.toList ds e S = some r →
      Q (lone { b.atR a k with mode := .returning } cs w)
  | [], G, S, w, e, a, k, st, inv, hp, ht, rd, h => by
    rw [finish_pack] at h
    simp only [Option.map_eq_some_iff] at h
    obtain ⟨vs, h1, h2⟩ := h
    obtain ⟨u, q1, q2⟩ := results_ok inv ht h1
    exact hend G S w a k _ u st inv hp q2 h2.symm rd q1
  | .mark o :: ds, G, S, w, e, a, k, st, inv, hp, ht, rd, h => by
    obtain ⟨rb, rest, hdf, hg, rd⟩ := rd
    simp only [finish] at h
    split at h
    · rename_i ho
      obtain ⟨w', t1, t2, t3⟩ := take_ok (P := P) inv ho hg
      refine hQ _ _ (step_mark (ds := rest) (fun q => by cases q) hdf t1) ?_
      exact finish_ok hd hQ hend ds (a := { a with defers := rest }) (k := k) (st.trans t3) t2 hp ht rd h
    · cases h
  | .call f args :: ds, G, S, w, e, a, k, st, inv, hp, ht, rd, h => by
    obtain ⟨i, a1, c1, va, vc, vargs, rest, rfl, hdf, r1, r2, r3, rd⟩ := rd
    simp only [finish] at h
    split at h
    · rename_i v S' hc
      have i0 : Inv G { S with pan := none } w := inv.setPan none (by intro v r e; cases e)
      have rr : RelL G (a1 ++ args ++ c1) ((va ++ vargs) ++ vc).toList := by
        rw [Array.toList_append, Array.toList_append]
        exact (r1.append r3).append r2
      refine dcall_step hd hQ hc i0 rr (up := undef) (by intro v r e; cases e) rfl hdf fun G' w' st' i' hsh => ?_
      have hnone : S'.pan = none := by
        cases hq : S'.pan with
        | none => rfl
        | some q => rw [hq] at hsh; cases hsh
      rw [settle_mode, hnone]
      have st2 : Step G S w G' { S' with pan := S.pan } w' := st'.setPan S.pan S.pan
      have i2 : Inv G' { S' with pan := S.pan } w' := i'.setPan _ fun v r e => by
        obtain ⟨u, q⟩ := inv.pan v r e
        exact ⟨u, Rel.mono st'.toMono _ _ q⟩
      exact finish_ok hd hQ hend ds (a := { a with defers := rest }) (k := k) (st.trans st2) i2 hp (ht.mono st'.toMono) (rd.mono st'.toMono) h
    · cases h

/-- How a function ends that panics. -/
theorem unwind_ok {κ : Oracles} (hd : DCallOk P κ.dcall) (hQ : Closed P Q) {fn : Func} {r : Ans × St} {cs : List Frame} {G0 : Gh} {S0 : St} {w0 : World} {p : Option (AV × Bool)}
    (hend : ∀ G S w a k v u, Step G0 S0 w0 G S w → Inv G S w → S.pan = p → Rel G v u → r = (.ret v, S) → a.defers = [] → (results fn a.tmps).run P w = .ok u w → Q (lone { b.atR a k with mode := .returning } cs w))
    (hpan : ∀ G S w a k v u, Step G0 S0 w0 G S w → Inv G S w → S.pan = p → Rel G v u → r = (.panic v, S) → a.defers = [] → Q (lone { b.atR a k with mode := .panicking [{ v := u, recovered := false }] } cs w)) :
    ∀ (ds : List ADef) {G : Gh} {S : St} {w : World} {e : Env} {a : Act} {k : List Item} {v : AV} {u : Value}, Step G0 S0 w0 G S w → Inv G S w → S.pan = p → RelT G e.t a.tmps → RelD G ds a.defers → Rel G v u → unwindA P κ fn.results.toList v ds e S = some r →
      Q (lone { b.atR a k with mode := .panicking [{ v := u, recovered := false }] } cs w)
  | [], G, S, w, e, a, k, v, u, st, inv, hp, ht, rd, ru, h => by
    simp only [unwindA, Option.some.injEq] at h
    exact hpan G S w a k v u st inv hp ru h.symm rd
  | .mark o :: ds, G, S, w, e, a, k, v, u, st, inv, hp, ht, rd, ru, h => by
    obtain ⟨rb, rest, hdf, hg, rd⟩ := rd
    simp only [unwindA] at h
    split at h
    · rename_i ho
      obtain ⟨w', t1, t2, t3⟩ := take_ok (P := P) inv ho hg
      refine hQ _ _ (step_mark (ds := rest) (fun q => by cases q) hdf t1) ?_
      exact unwind_ok hd hQ hend hpan ds (a := { a with defers := rest }) (k := k) (st.trans t3) t2 hp ht rd ru h
    · cases h
  | .call f args :: ds, G, S, w, e, a, k, v, u, st, inv, hp, ht, rd, ru, h => by
    obtain ⟨i, a1, c1, va, vc, vargs, rest, rfl, hdf, r1, r2, r3, rd⟩ := rd
    simp only [unwindA] at h
    split at h
    · rename_i v' S' hc
      have i0 : Inv G { S with pan := some (v, false) } w := inv.setPan _ (by intro v r e; cases e; exact ⟨u, ru⟩)
      have rr : RelL G (a1 ++ args ++ c1) ((va ++ vargs) ++ vc).toList := by
        rw [Array.toList_append, Array.toList_append]
        exact (r1.append r3).append r2
      refine dcall_step hd hQ hc i0 rr (up := u) (by intro v r e; cases e; exact ru) rfl hdf fun G' w' st' i' hsh => ?_
      rw [settle_mode]
      have st2 : Step G S w G' { S' with pan := S.pan } w' := st'.setPan S.pan S.pan
      have i2 : Inv G' { S' with pan := S.pan } w' := i'.setPan _ fun v r e => by
        obtain ⟨u, q⟩ := inv.pan v r e
        exact ⟨u, Rel.mono st'.toMono _ _ q⟩
      split at h
      · rename_i v2 hq
        rw [hq]
        exact finish_ok hd hQ hend ds (a := { a with defers := rest }) (k := k) (st.trans st2) i2 hp (ht.mono st'.toMono) (rd.mono st'.toMono) h
      · rename_i v2 hq
        rw [hq]
        exact unwind_ok hd hQ hend hpan ds (a := { a with defers := rest }) (k := k) (st.trans st2) i2 hp (ht.mono st'.toMono) (rd.mono st'.toMono) (Rel.mono st'.toMono _ _ ru) h
      · cases h
    · cases h

end

/- A function's body -/

structure ForeignOk (P : Program) (f : FuncId) (g : List AV → St → R) : Prop where
  enter : ∃ fn c, P.funcs[f]? = some fn ∧ fn.body = some c ∧ fn.name ≠ "runtime.NumGoroutine"
  run : ∀ args S ans S', g args S = some (ans, S') → S.pan = none → ∀ G w vargs, Inv G S w → RelL G args vargs.toList → CallTo P f vargs G S w ans S'

structure CfgOk (C : Cfg) : Prop where
  mixed : C.P.follows .mixedOrders = true
  names : ∀ (f : Nat) (fn : Func), C.P.funcs[f]? = some fn → fn.body.isSome = true → fn.name ≠ "runtime.NumGoroutine"
  foreign : ∀ f g, C.foreign f = some g → ForeignOk C.P f g

theorem envOf_rel {G : Gh} {args : List AV} {vargs : Array Value} (r : RelL G args vargs.toList) (n : Nat) : RelT G (envOf args).t (vargs ++ Array.replicate n undef) := by
  intro i
  simp only [envOf]
  have hl := r.length
  simp only [Array.length_toList] at hl
  rw [List.getD_eq_getElem?_getD, Array.getD_eq_getD_getElem?, Array.getElem?_append]
  by_cases h : i < vargs.size
  · rw [if_pos h]
    cases hx : args[i]? with
    | none =>
      have := List.getElem?_eq_none_iff.1 hx
      omega
    | some x =>
      obtain ⟨y, h1, h2⟩ := r.get hx
      have h1 : vargs[i]? = some y := by simpa using h1
      rw [h1]; exact h2
  · rw [if_neg h]
    have hx : args[i]? = none := List.getElem?_eq_none_iff.2 (by omega)
    rw [hx, Array.getElem?_replicate]
    split <;> exact undef_rel G

theorem body_ok {C : Cfg} (hC : CfgOk C) {κ : Oracles} (hκ : CallOk C.P κ.call) (hy : YldOk C.P κ.yld) (hd : DCallOk C.P κ.dcall) {dk : Bool} {f : FuncId} {args : List AV} {S : St} {r : Ans × St} (hnf : C.foreign f = none) (h : runF C κ dk f args S = some r)
    {kind : CallKind} (hkind : kind = if dk then .deferred else .normal) {G : Gh} {w : World} {vargs : Array Value} (inv : Inv G S w) (rr : RelL G args vargs.toList) {up : Up} (hup : ∀ v r, S.pan = some (v, r) → Rel G v up.v) (hsh : S.pan.map (·.1) = up.p) {cs : Callers}
    (hdk : dk = true → ∃ (c : Frame) (rest : List Frame), cs none = { c with mode := .returning } :: rest ∧ ∀ v r, cs (some (v, r)) = { c with mode := .panicking [{ v := up.v, recovered := r }] } :: rest) (hnk : dk = false → ∀ p q, cs p = cs q)
    {Q : Machine → Prop} (hQ : Closed C.P Q)
    (hret : ∀ G' S' w' fr v u, Step G S w G' S' w' → Inv G' S' w' → S'.pan.map (·.1) = S.pan.map (·.1) → Rel G' v u → r = (.ret v, S') → fr.fn = f → fr.kind = kind → fr.mode = .returning → fr.defers = [] → (∃ fn, C.P.funcs[fr.fn]? = some fn ∧ (results fn fr.tmps).run C.P w' = .ok u w') → Q (lone fr (cs S'.pan) w'))
    (hpan : ∀ G' S' w' fr v u, Step G S w G' S' w' → Inv G' S' w' → S'.pan.map (·.1) = S.pan.map (·.1) → Rel G' v u → r = (.panic v, S') → fr.fn = f → fr.kind = kind → fr.mode = .panicking [{ v := u, recovered := false }] → fr.defers = [] → (∃ fn, C.P.funcs[fr.fn]? = some fn) → Q (lone fr (cs S'.pan) w')) :
    Q (lone (Frame.enter C.P f vargs kind) (cs S.pan) w) := by
  unfold runF at h
  simp only [hnf] at h
  split at h
  · cases h
  · rename_i fn hfn
    split at h
    · cases h
    · rename_i c hb
      cases hfit : (fitsN fn.ntmps c && Nat.ble args.length fn.ntmps)
      · rw [hfit] at h; cases h
      · simp only [hfit, cond_true] at h
        simp only [Bool.and_eq_true] at hfit
        have hle : args.length ≤ fn.ntmps := by simpa using hfit.2
        have hl := rr.length
        simp only [Array.length_toList] at hl
        generalize hbf : ({ (default : Frame) with fn := f, kind := kind } : Frame) = b
        have hb1 : b.fn = f := by rw [← hbf]
        have hb2 : b.roundOf = none := by rw [← hbf]; rfl
        have hb3 : b.kind = kind := by rw [← hbf]
        have henter : Frame.enter C.P f vargs kind = b.atR { tmps := vargs ++ Array.replicate (fn.ntmps - vargs.size) undef, defers := [] } [.code c] := by
          rw [← hbf]
          simp [Frame.enter, Frame.atR, hfn, hb]
          rfl
        rw [henter]
        have F : FOk (C.ctx κ.toOracle f dk false) b cs up := by
          refine ⟨hb1, by rw [hb2]; rfl, fun q => ?_, fun q => ?_⟩
          · have q : dk = true := q
            rw [hb3, hkind, q]
            exact ⟨rfl, hb2, hdk q⟩
          · have q : dk = false := q
            rw [hb3, hkind, q]
            exact ⟨rfl, hnk q⟩
        have p : Pt fn.ntmps up G S w (envOf args) { tmps := vargs ++ Array.replicate (fn.ntmps - vargs.size) undef, defers := [] } :=
          ⟨inv, envOf_rel rr _, by simp; omega, rfl, hup, hsh⟩
        refine (code_ok (n := fn.ntmps) (r := r) F hC.mixed hκ hy hQ c).1 [] (fun _ => True) _ G S w (envOf args) _ (fun d hd => ⟨trivial, by simpa using List.all_eq_true.1 hfit.1 d hd⟩) p h ?_
        have sh : ∀ {S' : St}, S'.pan.map (·.1) = up.p → S'.pan.map (·.1) = S.pan.map (·.1) := fun q => q.trans hsh.symm
        have endR : ∀ {G' : Gh} {S' : St} {w' : World} {e' : Env} {a' : Act} {k : List Item}, From fn.ntmps up (fun _ => True) G S w (envOf args) G' S' w' e' a' → finish C.P κ fn.results.toList e'.d e' S' = some r → Q (lone { b.atR a' k with mode := .returning } (cs S'.pan) w') := by
          intro G' S' w' e' a' k fr hf
          refine finish_ok (b := b) hd hQ (fn := fn) (p := S'.pan) (G0 := G) (S0 := S) (w0 := w) (fun G2 S2 w2 a2 k2 v u st i hp ru hr hdf hres => ?_) e'.d fr.step fr.pt.inv rfl fr.pt.tmps fr.pt.defs hf
          rw [← hp]
          exact hret G2 S2 w2 _ v u st i (by rw [hp]; exact sh fr.pt.shape) ru hr hb1 hb3 rfl hdf ⟨fn, by show C.P.funcs[b.fn]? = _; rw [hb1]; exact hfn, hres⟩
        refine ⟨?_, ?_, fun j G' S' w' e' a' _ q => (by cases q), fun l G' S' w' e' a' _ q => (by cases q), ?_⟩
        · intro G' S' w' e' a' fr hf
          exact hQ _ _ (stepR_end hb2) (endR fr hf)
        · intro G' S' w' e' a' fr hf k'
          exact hQ _ _ (stepR_ret hb2) (endR fr hf)
        · intro v u G' S' w' e' a' fr hf ru k'
          refine unwind_ok (b := b) hd hQ (fn := fn) (p := S'.pan) (G0 := G) (S0 := S) (w0 := w) (fun G2 S2 w2 a2 k2 v u st i hp ru hr hdf hres => ?_) (fun G2 S2 w2 a2 k2 v u st i hp ru hr hdf => ?_) e'.d fr.step fr.pt.inv rfl fr.pt.tmps fr.pt.defs ru hf
          · rw [← hp]
            exact hret G2 S2 w2 _ v u st i (by rw [hp]; exact sh fr.pt.shape) ru hr hb1 hb3 rfl hdf ⟨fn, by show C.P.funcs[b.fn]? = _; rw [hb1]; exact hfn, hres⟩
          · rw [← hp]
            exact hpan G2 S2 w2 _ v u st i (by rw [hp]; exact sh fr.pt.shape) ru hr hb1 hb3 rfl hdf ⟨fn, by show C.P.funcs[b.fn]? = _; rw [hb1]; exact hfn⟩

theorem runF_enter {C : Cfg} (hC : CfgOk C) {κ : Oracles} {dk : Bool} {f : FuncId} {args : List AV} {S : St} {r : Ans × St} (h : runF C κ dk f args S = some r) : ∃ fn c, C.P.funcs[f]? = some fn ∧ fn.body = some c ∧ fn.name ≠ "runtime.NumGoroutine" := by
  cases hf : C.foreign f with
  | some g => exact (hC.foreign f g hf).enter
  | none =>
    unfold runF at h
    simp only [hf] at h
    split at h
    · cases h
    · rename_i fn hfn
      split at h
      · cases h
      · rename_i c hb
        exact ⟨fn, c, hfn, hb, hC.names f fn hfn (by rw [hb]; rfl)⟩

theorem callF_ok {C : Cfg} (hC : CfgOk C) {κ : Oracles} (hκ : CallOk C.P κ.call) (hy : YldOk C.P κ.yld) (hd : DCallOk C.P κ.dcall) : CallOk C.P (fun f args S => runF C κ false f args S) where
  enter f args S r h := runF_enter hC h
  run f args S ans S' h hp G w vargs inv rr := by
    cases hf : C.foreign f with
    | some g =>
      unfold runF at h
      simp only [hf, cond_false] at h
      exact (hC.foreign f g hf).run args S ans S' h hp G w vargs inv rr
    | none =>
      intro Q hQ cs hend
      refine body_ok hC hκ hy hd hf h (kind := .normal) rfl inv rr (up := ⟨undef, none⟩) (by rw [hp]; intro v r q; cases q) (by rw [hp]; rfl) (cs := fun _ => cs) (fun q => by cases q) (fun _ _ _ => rfl) hQ ?_ ?_
      · intro G' S2 w' fr v u st i hsh ru hr h1 h2 h3 h4 h5
        cases hr
        exact hend G' w' fr (.returned u) st i h1 ⟨u, rfl, ru⟩ ⟨h3, h4, h2, h5⟩
      · intro G' S2 w' fr v u st i hsh ru hr h1 h2 h3 h4 h5
        cases hr
        exact hend G' w' fr (.panicked _) st i h1 ⟨u, rfl, ru⟩ ⟨h3, h4, h5⟩

theorem dcallF_ok {C : Cfg} (hC : CfgOk C) {κ : Oracles} (hκ : CallOk C.P κ.call) (hy : YldOk C.P κ.yld) (hd : DCallOk C.P κ.dcall) : DCallOk C.P (fun f args S => runF C κ true f args S) where
  enter f args S r h := runF_enter hC h
  run f args S v S' h G w vargs inv rr up hup cs c rest hc0 hc1 Q hQ hend := by
    cases hf : C.foreign f with
    | some g =>
      unfold runF at h
      simp only [hf, cond_true] at h
      cases h
    | none =>
      refine body_ok hC hκ hy hd hf h (kind := .deferred) rfl inv rr (up := ⟨up, S.pan.map (·.1)⟩) hup rfl (cs := cs) (fun _ => ⟨c, rest, hc0, hc1⟩) (fun q => by cases q) hQ ?_ ?_
      · intro G' S2 w' fr v u st i hsh ru hr h1 h2 h3 h4 h5
        cases hr
        exact hend G' w' fr u st i hsh h2 ⟨h3, h4, h5⟩
      · intro G' S2 w' fr v u st i hsh ru hr h1 h2 h3 h4 h5
        cases hr

/- A round of a range over a function -/

theorem setAll_rel {G : Gh} : ∀ (ps : List Nat) (args : List AV) (vargs : List Value) (env : Nat → AV) (tmps : Array Value), RelT G env tmps → RelL G args vargs → (∀ t ∈ ps, t < tmps.size) →
    RelT G (setAll ps args env) ((ps.zip vargs).foldl (fun (tmps : Array Value) (p : Nat × Value) => tmps.setIfInBounds p.1 p.2) tmps) ∧ ((ps.zip vargs).foldl (fun (tmps : Array Value) (p : Nat × Value) => tmps.setIfInBounds p.1 p.2) tmps).size = tmps.size
  | [], args, vargs, env, tmps, h, r, hl => by simp [setAll]; exact h
  | t :: ts, [], vargs, env, tmps, h, r, hl => by
    simp only [RelL] at r; subst r
    simp [setAll]; exact h
  | t :: ts, x :: xs, vargs, env, tmps, h, r, hl => by
    obtain ⟨u, us, rfl, ru, rus⟩ := r
    simp only [setAll, List.zip_cons_cons, List.foldl_cons]
    have hsz : (tmps.setIfInBounds t u).size = tmps.size := by simp
    have := setAll_rel ts xs us (fun j => bif Nat.beq j t then x else env j) (tmps.setIfInBounds t u) (fun i => by
      by_cases q : i = t
      · subst q
        have : Nat.beq i i = true := by simp
        have hi := hl i (List.mem_cons_self ..)
        simp only [this, cond_true]
        simpa [Array.getD_eq_getD_getElem?, hi] using ru
      · have : Nat.beq i t = false := by
          cases hb : Nat.beq i t
          · rfl
          · exact (q (by simpa using hb)).elim
        simp only [this, cond_false]
        have := h i
        simpa [Array.getD_eq_getD_getElem?, Array.getElem?_setIfInBounds, Ne.symm q] using this) rus (fun t' ht' => by rw [hsz]; exact hl t' (List.mem_cons_of_mem _ ht'))
    rw [hsz] at this
    exact this

theorem run_beginRound {P : Program} {w : World} {b : Nat} {L : Loop} (hb : w.heap[b]? = some (.loop L)) (hs : L.state = .ready) : (Instr.beginRound b).run P w = .ok () { w with heap := w.heap.setIfInBounds b (.loop { L with state := .busy }) } := by
  have h2 := run_setObj_loop (P := P) (L' := { L with state := .busy }) hb
  simp [Instr.beginRound, Instr.getLoop, run_getObj_loop hb, hs, h2]

theorem run_endRound {P : Program} {w : World} {b : Nat} {L : Loop} (hb : w.heap[b]? = some (.loop L)) (j : Option Code) : (Instr.endRound b j).run P w = .ok (.bool j.isNone) { w with heap := w.heap.setIfInBounds b (.loop { L with state := if j.isNone then .ready else .done, pending := j }) } := by
  cases j with
  | none =>
    have h2 := run_setObj_loop (P := P) (L' := { L with state := .ready, pending := none }) hb
    simp [Instr.endRound, Instr.getLoop, run_getObj_loop hb, h2]
  | some c =>
    have h2 := run_setObj_loop (P := P) (L' := { L with state := .done, pending := some c }) hb
    simp [Instr.endRound, Instr.getLoop, run_getObj_loop hb, h2]

theorem yldF_ok {C : Cfg} (hC : CfgOk C) {κ : Oracle} (hκ : CallOk C.P κ.call) (hy : YldOk C.P κ.yld) : YldOk C.P (fun o args S => runY C κ o args S) where
  loop o args S r h := by
    unfold runY at h
    split at h
    · exact ⟨_, by assumption⟩
    · cases h
  run o args S ans S' h hp G w vargs inv rr l hg := by
    unfold runY at h
    split at h
    · rename_i al hal
      obtain ⟨lb, L, hg', hL, la⟩ := loop_here inv hal (by rw [hg]; exact fun q => by cases q)
      rw [hg] at hg'; cases hg'
      cases hc : (Nat.beq args.length al.params.length && (C.P.funcs[al.fn]?).isSome)
      · rw [hc] at h; cases h
      · simp only [hc, cond_true] at h
        simp only [Bool.and_eq_true] at hc
        have hlen : args.length = al.params.length := by simpa using hc.1
        obtain ⟨lfn, hlfn⟩ := isSome_get hc.2
        have hvl := rr.length
        simp only [Array.length_toList] at hvl
        have hpl : L.params.size = al.params.length := by rw [← la.params]; simp
        refine ⟨L, hL, by omega, fun Q hQ fr cs g => ?_⟩
        generalize hbf : ({ (default : Frame) with fn := L.fn, kind := .normal, roundOf := some l } : Frame) = b
        have hb1 : b.fn = al.fn := by rw [← hbf]; exact la.fn
        have hb2 : b.roundOf = some l := by rw [← hbf]
        have hb3 : b.kind = .normal := by rw [← hbf]
        have hfold : (L.params.zip vargs).foldl (fun tmps (t, a) => tmps.setIfInBounds t a) L.tmps = (al.params.zip vargs.toList).foldl (fun (tmps : Array Value) (p : Nat × Value) => tmps.setIfInBounds p.1 p.2) L.tmps := by
          rw [← Array.foldl_toList, Array.toList_zip, la.params]
        have hfit : ∀ d, d ∈ al.params ++ writes al.assign ++ writes al.body → d < L.tmps.size := la.fits
        obtain ⟨ht, hts⟩ := setAll_rel al.params args vargs.toList al.env L.tmps la.env rr (fun t q => hfit t (by simp [q]))
        rw [hfold]
        generalize (al.params.zip vargs.toList).foldl (fun (tmps : Array Value) (p : Nat × Value) => tmps.setIfInBounds p.1 p.2) L.tmps = tmps at ht hts
        have hround : Frame.round l L.fn tmps L.assign L.body .normal = b.atR { tmps := tmps, defers := [] } [.code L.assign, .beginRound, .code L.body] := by
          rw [← hbf]; simp [Frame.round, Frame.atR]
        rw [hround, la.assign, la.body]
        have F : FOk (C.ctx κ al.fn false true) b (fun _ => fr :: cs) ⟨undef, none⟩ := ⟨hb1, (by rw [hb2]; rfl), fun q => (by cases q), fun _ => ⟨hb3, fun _ _ => rfl⟩⟩
        have p : Pt L.tmps.size ⟨undef, none⟩ G S w ⟨setAll al.params args al.env, []⟩ { tmps := tmps, defers := [] } :=
          ⟨inv, ht, hts, rfl, (by rw [hp]; intro v r q; cases q), (by rw [hp]; rfl)⟩
        have here : ∀ {G' : Gh} {S' : St} {w' : World} {l' : ALoop}, Step G S w G' S' w' → Inv G' S' w' → S'.objs[o]? = some (.loop l') → ∃ L', G'.obj o = .at l ∧ w'.heap[l]? = some (.loop L') ∧ LoopAt G' l' L' := by
          intro G' S' w' l' st i hl'
          have hne : G'.obj o ≠ .un := by rcases st.toMono.obj _ _ hg with q | q <;> rw [q] <;> exact fun h => by cases h
          obtain ⟨lb, L', q1, q2, q3⟩ := loop_here i hl' hne
          rcases st.toMono.obj _ _ hg with q | q
          · rw [q] at q1; cases q1; exact ⟨L', q, q2, q3⟩
          · rw [q] at q1; cases q1
        refine (code_ok (n := L.tmps.size) (r := (ans, S')) F hC.mixed hκ hy hQ al.assign).1 [.beginRound, .code al.body] (fun _ => True) _ G S w _ _ (fun d hd => ⟨trivial, hfit d (by simp [hd])⟩) p h ⟨?_, fun G' S' w' e' a' _ q => (by cases q), fun j G' S' w' e' a' _ q => (by cases q), fun l G' S' w' e' a' _ q => (by cases q), fun v u G' S' w' e' a' _ q => (by cases q)⟩
        intro G1 S1 w1 e1 a1 f1 h1
        simp only at h1
        split at h1
        · rename_i l1 hl1
          obtain ⟨L1, g1, hL1, la1⟩ := here f1.step f1.pt.inv hl1
          split at h1
          · rename_i hrdy
            refine hQ _ _ (stepR_beginRound hb2 (run_beginRound hL1 (la1.state.trans hrdy))) ?_
            obtain ⟨i2, s2⟩ := loop_turn f1.pt.inv g1 hL1 (l' := { l1 with state := .busy }) (L' := { L1 with state := .busy }) ⟨rfl, la1.pend, la1.fn, la1.env, la1.params, la1.assign, la1.body, la1.defers, la1.fits⟩
            have p2 : Pt L.tmps.size ⟨undef, none⟩ G1 (S1.setObj o (.loop { l1 with state := .busy })) { w1 with heap := w1.heap.setIfInBounds l (.loop { L1 with state := .busy }) } e1 a1 :=
              Pt.mono f1.pt (Mono.refl G1) i2 rfl
            have st12 := f1.step.trans s2
            have endR : ∀ {G2 : Gh} {S2 : St} {w2 : World} {e2 : Env} {a2 : Act} {j : Option Code}, From L.tmps.size ⟨undef, none⟩ (fun _ => True) G1 (S1.setObj o (.loop { l1 with state := .busy })) { w1 with heap := w1.heap.setIfInBounds l (.loop { L1 with state := .busy }) } e1 G2 S2 w2 e2 a2 →
                endRoundA o j S2 = some (ans, S') → ∃ L2, w2.heap[l]? = some (.loop L2) ∧ Q (lone (fr.finish (.bool j.isNone)) cs { w2 with heap := w2.heap.setIfInBounds l (.loop { L2 with state := if j.isNone then .ready else .done, pending := j }) }) := by
              intro G2 S2 w2 e2 a2 j f2 he
              unfold endRoundA at he
              split at he
              · rename_i l2 hl2
                simp only [Option.some.injEq, Prod.mk.injEq] at he
                obtain ⟨hans, hS'⟩ := he
                obtain ⟨L2, g2, hL2, la2⟩ := here (st12.trans f2.step) f2.pt.inv hl2
                refine ⟨L2, hL2, ?_⟩
                have hsame : (bif j.isNone then LoopState.ready else LoopState.done) = if j.isNone then LoopState.ready else LoopState.done := by cases j <;> rfl
                obtain ⟨i3, s3⟩ := loop_turn f2.pt.inv g2 hL2 (l' := { l2 with state := bif j.isNone then .ready else .done, pend := j }) (L' := { L2 with state := if j.isNone then .ready else .done, pending := j }) (by
                  have := la2.setState (if j.isNone then .ready else .done) j
                  rw [hsame]; exact this)
                subst hans hS'
                exact g G2 _ (.bool j.isNone) ((st12.trans f2.step).trans s3) i3 rfl
              · cases he
            refine (code_ok (n := L.tmps.size) (r := (ans, S')) F hC.mixed hκ hy hQ al.body).1 [] (fun _ => True) _ G1 _ _ e1 a1 (fun d hd => ⟨trivial, hfit d (by simp [hd])⟩) p2 h1 ⟨?_, ?_, ?_, ?_, ?_⟩
            · intro G2 S2 w2 e2 a2 f2 h2
              obtain ⟨L2, hL2, q⟩ := endR f2 h2
              exact hQ _ _ (stepR_round_end hb2 hb3 (run_endRound hL2 none)) q
            · intro G2 S2 w2 e2 a2 f2 h2 k'
              obtain ⟨L2, hL2, q⟩ := endR f2 h2
              exact hQ _ _ (stepR_round_ret hb2 hb3 (run_endRound hL2 _)) q
            · intro j G2 S2 w2 e2 a2 f2 h2 k' hk
              obtain ⟨L2, hL2, q⟩ := endR f2 h2
              exact hQ _ _ (stepR_round_exit hb2 hb3 (hk.trans rfl) (run_endRound hL2 _)) q
            · intro j G2 S2 w2 e2 a2 f2 h2 k' hk
              obtain ⟨L2, hL2, q⟩ := endR f2 h2
              exact hQ _ _ (stepR_round_goto hb2 hb3 (hk.trans rfl) (run_endRound hL2 _)) q
            · intro v u G2 S2 w2 e2 a2 f2 h2 ru k'
              simp only at h2
              split at h2
              · rename_i hd2
                simp only [Option.some.injEq, Prod.mk.injEq] at h2
                obtain ⟨hans, hS'⟩ := h2
                have rd := f2.pt.defs
                rw [hd2] at rd
                subst hans hS'
                refine hQ _ _ (step_leave_panicked (chain := [{ v := u, recovered := false }]) ⟨rfl, rd, lfn, ?_⟩) (g G2 w2 u (st12.trans f2.step) f2.pt.inv ru)
                show C.P.funcs[b.fn]? = _
                rw [hb1]; exact hlfn
              · cases h2
          · cases h1
        · cases h1
    · cases h

theorem run_ok {C : Cfg} (hC : CfgOk C) : ∀ n, CallOk C.P (run C n).call ∧ YldOk C.P (run C n).yld ∧ DCallOk C.P (run C n).dcall
  | 0 => ⟨⟨fun _ _ _ _ h => (by cases h), fun _ _ _ _ _ h => (by cases h)⟩, ⟨fun _ _ _ _ h => (by cases h), fun _ _ _ _ _ h => (by cases h)⟩, ⟨fun _ _ _ _ h => (by cases h), fun _ _ _ _ _ h => (by cases h)⟩⟩
  | n + 1 => by
    obtain ⟨h1, h2, h3⟩ := run_ok hC n
    exact ⟨callF_ok hC h1 h2 h3, yldF_ok hC h1 h2, dcallF_ok hC h1 h2 h3⟩

end Go.Sac
