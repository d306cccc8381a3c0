/- One operation that turns the state, at its place: all of them. -/
import Derived.Test.YtippafigppeblaaGreatSacAa
import Derived.RecoverIn
namespace Go.Sac
set_option linter.unusedVariables false
set_option linter.unusedSimpArgs false
open Go

theorem okv_ret {r : Option (AV × St)} {ans : Ans} {S' : St} (h : okv r = some (ans, S')) : ∃ v, ans = .ret v := by
  simp only [okv, Option.map_eq_some_iff] at h
  obtain ⟨⟨a, b⟩, h, e⟩ := h
  cases e; exact ⟨_, rfl⟩

theorem ok_ret {r : Option St} {ans : Ans} {S' : St} (h : ok r = some (ans, S')) : ∃ v, ans = .ret v := by
  simp only [ok, Option.map_eq_some_iff] at h
  obtain ⟨a, h, e⟩ := h
  cases e; exact ⟨_, rfl⟩

theorem act_ret {X : Ctx} {e : Env} {S S' : St} {op : Op} {dst : Option Nat} {ans : Ans} (hp : plainAct op = true) (h : actOp X op dst e S = some (ans, S')) : ∃ v, ans = .ret v := by
  cases op <;> simp only [plainAct, Bool.false_eq_true] at hp <;> simp only [actOp] at h
  case alloc t => cases ho : okT X.P t <;> simp only [ho, cond_true, cond_false, reduceCtorEq] at h; exact okv_ret h
  case box t x => simp only [Option.bind_eq_some_iff] at h; obtain ⟨cs, h1, h⟩ := h; exact okv_ret h
  case buildSlice t len parts =>
    simp only [Option.bind_eq_some_iff] at h
    obtain ⟨r, h1, h⟩ := h
    cases ho : X.ownAt dst <;> simp only [ho, cond_true, cond_false] at h
    · simp at h; exact ⟨_, h.1.symm⟩
    · exact okv_ret h
  case store t a x => cases ho : (X.P.info? t).isSome <;> simp only [ho, cond_true, cond_false, reduceCtorEq] at h; exact ok_ret h
  case insert t m k x => exact ok_ret h
  case mapUpdate t m k x => exact ok_ret h
  case makeMap t r =>
    split at h
    · exact okv_ret h
    · split at h
      · exact okv_ret h
      · cases h
  case makeSlice t l c => exact okv_ret h
  case mapEntry t m k => exact okv_ret h
  case range t x => exact okv_ret h
  case next it str =>
    cases str
    · exact okv_ret h
    · cases h
  case entry it => exact okv_ret h
  case entryStore t m s x => exact ok_ret h
  case call c =>
    obtain ⟨callee, args, tys⟩ := c
    cases callee <;> simp only [Bool.false_eq_true] at hp
    rename_i b
    cases b <;> simp only [Bool.false_eq_true] at hp <;> simp only [oBuiltin] at h
    case append =>
      split at h
      · split at h
        · cases h
        · rename_i el _ _ _ _
          revert h; generalize (!okT X.P el) = c; intro h
          cases c
          · simp only [cond_false, Option.bind_eq_some_iff] at h
            obtain ⟨_, _, h⟩ := h
            exact okv_ret h
          · cases h
        · cases h
      · cases h
    case copy =>
      split at h
      · split at h
        · revert h; generalize Option.isSome _ = c; intro h
          cases c
          · cases h
          · exact okv_ret h
        · cases h
      · cases h
    case delete =>
      split at h
      · exact ok_ret h
      · cases h
    case clear =>
      split at h
      · split at h
        · split at h
          · exact ok_ret h
          · cases h
        · cases h
      · cases h

section
variable {X : Ctx} {b : Frame} {cs : Callers} {up : Up} {n : Nat} {Q : Machine → Prop} {G : Gh} {S : St} {w : World} {e : Env} {a : Act} {all : Array Oper} {o : Oper} {i : Nat} {rest : List Nat} {kk : List Item}

/-- What an acting operation at its place comes to. -/
theorem actStep (F : FOk X b cs up) (hκ : CallOk X.P X.κ.call) (hy : YldOk X.P X.κ.yld) (hQ : Closed X.P Q) (ho : all[i]? = some o) (hdf : ∀ c, o.op ≠ .defer c) (hw : Region.wanted o (yielded all a.tmps) = true)
    (p : Pt n up G S w e a) (hd : ∀ d, o.dst = some d → d < n) {ans : Ans} {S' : St} (h : actOp X o.op o.dst e S = some (ans, S'))
    (hk : ∀ v, ans = .ret v → ∀ G' w' a', From n up (fun j => o.dst = some j) G S w e G' S' w' (e.put o.dst v) a' → Q (lone (b.atR a' (.inRegion all rest :: kk)) (cs S'.pan) w'))
    (hp : ∀ v u, ans = .panic v → ∀ G' w', Step G S w G' S' w' → Pt n up G' S' w' e a → Rel G' v u →
      Q (lone { b.atR a (.inRegion all (i :: rest) :: kk) with mode := .panicking [{ v := u, recovered := false }] } (cs S'.pan) w')) :
    Q (lone (b.atR a (.inRegion all (i :: rest) :: kk)) (cs S.pan) w) := by
  have hsem := semAt_plain (b := b) hdf a.eval
  cases hpl : plainAct o.op
  · rcases actOp_cases h hpl with ⟨x, t, v, hop, hx, hr⟩ | ⟨args, tys, hop, hr⟩ | ⟨f, args, tys, hop, hr⟩ | ⟨x, name, args, tys, t, v, f, hop, hx, hm, hr⟩
    · cases hr
      have rx := p.ev x
      rw [hx] at rx
      obtain ⟨u, hxu, ru⟩ := rx
      refine hQ _ _ (op_panic ho hw (v := .iface t u) (w' := w) ?_) (hp _ (.iface t u) rfl G w (Step.refl G S w) p ⟨u, rfl, ru⟩)
      rw [hsem]
      obtain ⟨dst, op, ty, pos, after, guard⟩ := o
      simp only at hop; subst hop
      simp [execOp, hxu, Instr.panic, goPanic, Sem.run]
    · have hrun : (o.semAt b.roundOf a.eval).run X.P w = .ok .recover w := by
        rw [hsem]
        obtain ⟨dst, op, ty, pos, after, guard⟩ := o
        simp only at hop; subst hop
        rfl
      have hg := stepGR_op (P := X.P) (b := b) (k := kk) (cs := cs S.pan) (w := w) (rest := rest) ho hw
      have none_ : b.roundOf = none → tryRecover (b.atR a (.inRegion all (i :: rest) :: kk)) (cs S.pan) = none → ans = .ret .niliface → S' = S → Q (lone (b.atR a (.inRegion all (i :: rest) :: kk)) (cs S.pan) w) := by
        rintro hro ht rfl rfl
        refine hQ _ _ (step_lone_go ?_) (hk _ rfl G w _ (From.put p (Step.refl G S' w) p.inv rfl hd (rfl : Rel G .niliface .nilIface)))
        rw [hg, ← fin_at ho]
        simp only [Frame.atR, hro] at ht hrun ⊢
        simp [stepG.apply, hrun, ht]
      simp only [oBuiltin] at hr
      split at hr
      · cases hdk : X.dk
        · simp only [hdk, cond_false] at hr
          cases hrd : X.round
          · simp only [hrd, cond_false, Option.some.injEq, Prod.mk.injEq] at hr
            have hro : b.roundOf = none := by
              have := F.round; rw [hrd] at this
              cases hb : b.roundOf with
              | none => rfl
              | some l => rw [hb] at this; cases this
            exact none_ hro (by simp [tryRecover, Frame.atR, (F.nk hdk).1]) hr.1.symm hr.2.symm
          · simp [hrd] at hr
        · simp only [hdk, cond_true] at hr
          obtain ⟨hkd, hro, c, more, hc0, hc1⟩ := F.dk hdk
          split at hr
          · rename_i v hpn
            simp only [Option.some.injEq, Prod.mk.injEq] at hr
            obtain ⟨rfl, rfl⟩ := hr
            have rv := p.pan v false hpn
            have hst : Step G S w G { S with pan := some (v, true) } w := (Step.refl G S w).setPan S.pan _
            have hinv : Inv G { S with pan := some (v, true) } w := p.inv.setPan _ fun v' r e => by cases e; exact ⟨_, rv⟩
            have hpt : Pt n up G { S with pan := some (v, true) } w (e.put o.dst v) (a.put o.dst up.v) := by
              have q := p.put (Mono.refl G) p.inv rfl hd rv
              exact ⟨hinv, q.tmps, q.size, q.defs, fun v' r e => (by cases e; exact rv), (by rw [← p.shape, hpn]; rfl)⟩
            have hfr := From.put p (Step.refl G S w) p.inv rfl hd rv
            refine hQ _ _ (step_lone_go ?_) (hk v rfl G w (a.put o.dst up.v) ⟨hst, hpt, hfr.agree⟩)
            rw [hg, ← fin_at ho, hpn, hc1, hc1]
            simp only [Frame.atR, hro, hkd] at hrun ⊢
            simp [stepG.apply, hrun, tryRecover]
          · rename_i hnp
            simp only [Option.some.injEq, Prod.mk.injEq] at hr
            refine none_ hro ?_ hr.1.symm hr.2.symm
            cases hpn : S.pan with
            | none => rw [hc0]; simp [tryRecover, Frame.atR, hkd]
            | some q =>
              obtain ⟨v, r⟩ := q
              cases r
              · exact (hnp v hpn).elim
              · rw [hc1]; simp [tryRecover, Frame.atR, hkd]
      · cases hr
    · refine callStep hκ hy hQ ho hw p hd hr (p.ev f) (relL_map p.ev args) (fun nx w' hrun => ?_) hk hp
      rw [hsem]
      obtain ⟨dst, op, ty, pos, after, guard⟩ := o
      simp only at hop; subst hop
      rw [← hrun]
      rfl
    · have rx := p.ev x
      rw [hx] at rx
      obtain ⟨u, hxu, ru⟩ := rx
      refine callStep hκ hy hQ ho hw p hd hr (vf := .func (.func f) #[] #[]) (vargs := #[u] ++ args.map a.eval) ⟨#[], #[], rfl, rfl, rfl⟩ (by
        rw [Array.toList_append]
        exact ⟨u, _, rfl, ru, relL_map p.ev args⟩) (fun nx w' hrun => ?_) hk hp
      rw [hsem]
      obtain ⟨dst, op, ty, pos, after, guard⟩ := o
      simp only at hop; subst hop
      rw [← hrun]
      have hmm : ∀ w, (Go.method (X.P.types.size + Made.depth) t u name).run X.P w = .ok (f, u) w := fun w => run_method hm _ u w
      have h0 : (#[Value.iface t u] ++ Array.map a.eval args)[0]? = some (.iface t u) := by
        rw [Array.getElem?_append_left (by simp)]; rfl
      have h1 : (Array.map a.eval args).extract 0 args.size = Array.map a.eval args := by
        have : args.size = (Array.map a.eval args).size := by simp
        rw [this, Array.extract_size]
      simp [execOp, resolve, invoke, callMethod, hxu, Deferred.ofValue, h0, h1, hmm]
  · cases ans with
    | panic v => obtain ⟨_, q⟩ := act_ret hpl h; cases q
    | ret v =>
      obtain ⟨x, G', w', h1, h2, h3, h4⟩ := act_ok p.inv p.ev hpl h
      have hpan := act_pan hpl h
      rw [← hpan]
      rw [← hsem] at h1
      rcases h2 with ⟨cv, rfl, rv⟩ | ⟨rfl, rfl⟩
      · exact hQ _ _ (op_value ho hw h1) (hk v rfl G' w' _ (From.put p h4 h3 hpan hd rv))
      · exact hQ _ _ (op_skip ho hw h1) (hk _ rfl G' w' _ (From.put p h4 h3 hpan hd (undef_rel G')))

end
end Go.Sac
