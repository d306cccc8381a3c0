/- One operation that turns the state, at its place. -/
import Derived.Test.YtippafigppeblaaGreatSacY
namespace Go.Sac
set_option linter.unusedVariables false
set_option linter.unusedSimpArgs false
open Go

section
variable {X : Ctx} {b : Frame} {cs : Callers} {up : Up} {n : Nat} {Q : Machine → Prop} {G : Gh} {S : St} {w : World} {e : Env} {a : Act} {all : Array Oper} {o : Oper} {i : Nat} {rest : List Nat} {kk : List Item}

theorem Pt.mono {G' : Gh} {S' : St} {w' : World} (p : Pt n up G S w e a) (m : Mono G G') (inv : Inv G' S' w') (hp : S'.pan = S.pan) : Pt n up G' S' w' e a :=
  ⟨inv, p.tmps.mono m, p.size, p.defs.mono m, fun v r e => Rel.mono m _ _ (p.pan v r (by rw [← hp]; exact e)), by rw [hp]; exact p.shape⟩

/-- A call, at its place. -/
theorem callStep (hκ : CallOk X.P X.κ.call) (hy : YldOk X.P X.κ.yld) (hQ : Closed X.P Q) (ho : all[i]? = some o) (hw : Region.wanted o (yielded all a.tmps) = true)
    (p : Pt n up G S w e a) (hd : ∀ d, o.dst = some d → d < n) {f : AV} {vf : Value} {args : List AV} {vargs : Array Value} {ans : Ans} {S' : St} (h : callV X f args S = some (ans, S'))
    (rf : Rel G f vf) (r : RelL G args vargs.toList) (hs : ∀ nx w', (do let d ← Deferred.ofValue vf vargs; invoke d.target d.args : Sem Next).run X.P w = .ok nx w' → (o.semAt b.roundOf a.eval).run X.P w = .ok nx w')
    (hk : ∀ v, ans = .ret v → ∀ G' w' a', From n up (fun j => o.dst = some j) G S w e G' S' w' (e.put o.dst v) a' → Q (lone (b.atR a' (.inRegion all rest :: kk)) (cs S'.pan) w'))
    (hp : ∀ v u, ans = .panic v → ∀ G' w', Step G S w G' S' w' → Pt n up G' S' w' e a → Rel G' v u →
      Q (lone { b.atR a (.inRegion all (i :: rest) :: kk) with mode := .panicking [{ v := u, recovered := false }] } (cs S'.pan) w')) :
    Q (lone (b.atR a (.inRegion all (i :: rest) :: kk)) (cs S.pan) w) := by
  obtain ⟨hpan, nx, hrun, hinto⟩ := callV_ok hκ hy p.inv h rf r
  have hsem := hs nx w hrun
  have goes : Goes Q (b.atR a (.inRegion all (i :: rest) :: kk)) (cs S.pan) G S w S' ans := by
    cases ans with
    | ret v =>
      intro G' w' u st inv' ru
      rw [fin_at ho, ← hpan]
      exact hk v rfl G' w' _ (From.put p st inv' hpan hd ru)
    | panic v =>
      intro G' w' u st inv' ru
      rw [Frame.raise_atR, ← hpan]
      exact hp v u rfl G' w' st (p.mono st.toMono inv' hpan) ru
  have hi := hinto Q hQ _ _ goes
  cases nx <;> simp only [Into] at hi <;> try (exact hi.elim)
  · exact hQ _ _ (op_enter ho hw hsem) hi
  · exact hQ _ _ (op_round ho hw hsem) hi

end
end Go.Sac
