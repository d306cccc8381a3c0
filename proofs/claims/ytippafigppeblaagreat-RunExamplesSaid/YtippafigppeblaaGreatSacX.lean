/- Calls of function values. -/
import Derived.Test.YtippafigppeblaaGreatSacW
import Derived.RangeFuncRecord
namespace Go.Sac
set_option linter.unusedVariables false
set_option linter.unusedSimpArgs false
open Go

theorem Inv.setPan {G : Gh} {S : St} {w : World} (h : Inv G S w) (p : Option (AV × Bool)) (hp : ∀ v r, p = some (v, r) → ∃ u, Rel G v u) : Inv G { S with pan := p } w :=
  ⟨h.obj, h.dead, h.inj, h.beyond, h.mem, h.away, h.tip, h.tipobj, h.tiptip, hp, h.room, h.lentlt⟩

theorem Step.setPan {G G' : Gh} {S S' : St} {w w' : World} (h : Step G S w G' S' w') (p p' : Option (AV × Bool)) : Step G { S with pan := p } w G' { S' with pan := p' } w' :=
  { h.toMono with un := h.un, len := h.len, heap := h.heap, size := h.size, old := h.old, own := h.own, os := h.os, tape := h.tape, output := h.output }

/-- What a frame that called goes on with. -/
def Goes (Q : Machine → Prop) (fr : Frame) (cs : List Frame) (G : Gh) (S : St) (w : World) (S' : St) : Ans → Prop
  | .ret v => ∀ G' w' u, Step G S w G' S' w' → Inv G' S' w' → Rel G' v u → Q (lone (fr.finish u) cs w')
  | .panic v => ∀ G' w' u, Step G S w G' S' w' → Inv G' S' w' → Rel G' v u → Q (lone (fr.raise [{ v := u, recovered := false }]) cs w')

structure YldOk (P : Program) (κ : Nat → List AV → St → R) : Prop where
  loop : ∀ o args S r, κ o args S = some r → ∃ l, S.objs[o]? = some (.loop l)
  run : ∀ o args S ans S', κ o args S = some (ans, S') → S.pan = none → ∀ G w vargs, Inv G S w → RelL G args vargs.toList → ∀ l, G.obj o = .at l →
    ∃ L, w.heap[l]? = some (.loop L) ∧ vargs.size = L.params.size ∧ ∀ Q, Closed P Q → ∀ fr cs, Goes Q fr cs G S w S' ans →
      Q (lone (Frame.round l L.fn ((L.params.zip vargs).foldl (fun tmps (t, a) => tmps.setIfInBounds t a) L.tmps) L.assign L.body .normal) (fr :: cs) w)

theorem CallTo.goes {P : Program} {f : FuncId} {vargs : Array Value} {G : Gh} {S S' : St} {w : World} {ans : Ans} (h : CallTo P f vargs G S w ans S') {Q : Machine → Prop} (hQ : Closed P Q) {fr : Frame} {cs : List Frame} (g : Goes Q fr cs G S w S' ans) :
    Q (lone (Frame.enter P f vargs .normal) (fr :: cs) w) := by
  refine h Q hQ (fr :: cs) fun G' w' fr' e st i hf he hl => ?_
  cases ans with
  | ret v =>
    obtain ⟨u, rfl, r⟩ := he
    exact hQ _ _ (step_leave_returned hl) (g G' w' u st i r)
  | panic v =>
    obtain ⟨u, rfl, r⟩ := he
    exact hQ _ _ (step_leave_panicked hl) (g G' w' u st i r)

section
variable {X : Ctx} {G : Gh} {S : St} {w : World}

theorem run_callFunc {P : Program} {f : FuncId} {fn : Func} {c : Code} (h1 : P.funcs[f]? = some fn) (h2 : fn.body = some c) (h3 : fn.name ≠ "runtime.NumGoroutine") (args : Array Value) (w : World) :
    (callFunc f args).run P w = .ok (.enter f args) w := by
  simp [callFunc, h1, h2, h3]

/-- What a call at a frame goes over to. -/
def Into (P : Program) (Q : Machine → Prop) (fr : Frame) (cs : List Frame) (w : World) : Next → Prop
  | .enter f args => Q (lone (Frame.enter P f args .normal) (fr :: cs) w)
  | .round l f t c d => Q (lone (Frame.round l f t c d .normal) (fr :: cs) w)
  | _ => False

theorem callV_ok (hκ : CallOk X.P X.κ.call) (hy : YldOk X.P X.κ.yld) (inv : Inv G S w) {f : AV} {vf : Value} {args : List AV} {vargs : Array Value} {ans : Ans} {S' : St} (h : callV X f args S = some (ans, S'))
    (rf : Rel G f vf) (r : RelL G args vargs.toList) :
    S'.pan = S.pan ∧ ∃ nx, (do let d ← Deferred.ofValue vf vargs; invoke d.target d.args : Sem Next).run X.P w = .ok nx w ∧
      ∀ Q, Closed X.P Q → ∀ fr cs, Goes Q fr cs G S w S' ans → Into X.P Q fr cs w nx := by
  unfold callV at h
  split at h
  · rename_i i a c
    simp only [Rel] at rf
    obtain ⟨va, vc, rfl, ra, rc⟩ := rf
    have rr : RelL G (a ++ args ++ c) (va ++ vargs ++ vc).toList := by
      rw [Array.toList_append, Array.toList_append]
      exact (ra.append r).append rc
    have hrun : ∀ {fn : Func} {cd : Code}, X.P.funcs[i]? = some fn → fn.body = some cd → fn.name ≠ "runtime.NumGoroutine" →
        (do let d ← Deferred.ofValue (.func (.func i) va vc) vargs; invoke d.target d.args : Sem Next).run X.P w = .ok (.enter i (va ++ vargs ++ vc)) w := by
      intro fn cd h1 h2 h3
      have := run_callFunc h1 h2 h3 (va ++ vargs ++ vc) w
      simp [Deferred.ofValue, invoke]
      rw [← Array.append_assoc]; exact this
    cases hp : X.pure i
    · simp only [hp, cond_false] at h
      split at h
      · rename_i ans' S1 hc
        cases h
        have hto := hκ.run _ _ _ _ _ hc rfl
        obtain ⟨fn, cd, h1, h2, h3⟩ := hκ.enter _ _ _ _ hc
        refine ⟨rfl, _, hrun h1 h2 h3, fun Q hQ fr cs g => ?_⟩
        have i0 : Inv G { S with pan := none } w := inv.setPan none (by intro v r e; cases e)
        refine (hto G w _ i0 rr).goes hQ ?_
        have back : ∀ {G' w'}, Step G { S with pan := none } w G' S1 w' → Inv G' S1 w' → Step G S w G' { S1 with pan := S.pan } w' ∧ Inv G' { S1 with pan := S.pan } w' := fun {G' w'} st i1 => by
          refine ⟨st.setPan S.pan S.pan, i1.setPan _ fun v r e => ?_⟩
          obtain ⟨u, k⟩ := inv.pan v r e
          exact ⟨u, Rel.mono st.toMono _ _ k⟩
        cases ans with
        | ret v => exact fun G' w' u st i1 ru => g G' w' u (back st i1).1 (back st i1).2 ru
        | panic v => exact fun G' w' u st i1 ru => g G' w' u (back st i1).1 (back st i1).2 ru
      · cases h
    · simp only [hp, cond_true] at h
      obtain ⟨rfl, hto, fn, cd, h1, h2, h3⟩ := apart_ok hκ inv h rr
      exact ⟨rfl, _, hrun h1 h2 h3, fun Q hQ fr cs g => hto.goes hQ g⟩
  · rename_i o
    split at h
    · rename_i ans' S1 hc
      cases h
      obtain ⟨al, hal⟩ := hy.loop _ _ _ _ hc
      simp only [Rel] at rf
      cases hg : G.obj o with
      | un => simp [hg] at rf
      | dead => rw [inv.dead o hg] at hal; cases hal
      | «at» l =>
        simp only [hg] at rf; subst rf
        have i0 : Inv G { S with pan := none } w := inv.setPan none (by intro v r e; cases e)
        have hto := hy.run _ _ _ _ _ hc rfl
        obtain ⟨L, hL, hsz, hgo⟩ := hto G w vargs i0 r l hg
        refine ⟨rfl, .round l L.fn ((L.params.zip vargs).foldl (fun tmps (t, a) => tmps.setIfInBounds t a) L.tmps) L.assign L.body, ?_, fun Q hQ fr cs g => ?_⟩
        · have hne : ¬ vargs.size ≠ L.params.size := by omega
          simp [Deferred.ofValue, invoke, Instr.yield, Instr.getLoop, run_getObj_loop hL, hne]
        · refine hgo Q hQ fr cs ?_
          have back : ∀ {G' w'}, Step G { S with pan := none } w G' S1 w' → Inv G' S1 w' → Step G S w G' { S1 with pan := S.pan } w' ∧ Inv G' { S1 with pan := S.pan } w' := fun {G' w'} st i1 => by
            refine ⟨st.setPan S.pan S.pan, i1.setPan _ fun v r e => ?_⟩
            obtain ⟨u, k⟩ := inv.pan v r e
            exact ⟨u, Rel.mono st.toMono _ _ k⟩
          cases ans with
          | ret v => exact fun G' w' u st i1 ru => g G' w' u (back st i1).1 (back st i1).2 ru
          | panic v => exact fun G' w' u st i1 ru => g G' w' u (back st i1).1 (back st i1).2 ru
    · cases h
  · cases h

end
end Go.Sac
