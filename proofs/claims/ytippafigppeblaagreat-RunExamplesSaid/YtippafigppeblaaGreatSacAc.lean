/- A region in the program's order. -/
import Derived.Test.YtippafigppeblaaGreatSacAb
namespace Go.Sac
set_option linter.unusedVariables false
set_option linter.unusedSimpArgs false
open Go

section
variable {X : Ctx} {b : Frame} {cs : Callers} {up : Up} {n : Nat} {Q : Machine → Prop} {all : Array Oper} {kk : List Item}

theorem stepR_skip_of {P : Program} {a : Act} {csl : List Frame} {w : World} {o : Oper} {i : Nat} {rest : List Nat} (ho : all[i]? = some o) (hw : Region.wanted o (yielded all a.tmps) = false) :
    step P (lone (b.atR a (.inRegion all (i :: rest) :: kk)) csl w) = .next (lone (b.atR (a.put o.dst undef) (.inRegion all rest :: kk)) csl w) := by
  have := stepR_op_skip (P := P) (b := b) (a := a) (k := kk) (cs := csl) (w := w) (ops := all) (i := i) (rest := rest) (by simp [ho, hw])
  rw [ho] at this
  exact this

/-- One operation. -/
theorem doOp_ok (F : FOk X b cs up) (hκ : CallOk X.P X.κ.call) (hy : YldOk X.P X.κ.yld) (hQ : Closed X.P Q) {G : Gh} {S : St} {w : World} {e : Env} {a : Act} {o : Oper} {i : Nat} {rest : List Nat} (ho : all[i]? = some o)
    (p : Pt n up G S w e a) (hd : ∀ d, o.dst = some d → d < n) {kp : AV → St → R} {k : Env → St → R} {r : Ans × St} (h : doOp X all o e S kp k = some r)
    (hk : ∀ G' S' w' e' a', From n up (fun j => o.dst = some j) G S w e G' S' w' e' a' → k e' S' = some r → Q (lone (b.atR a' (.inRegion all rest :: kk)) (cs S'.pan) w'))
    (hp : ∀ v u G' S' w', Step G S w G' S' w' → Pt n up G' S' w' e a → Rel G' v u → kp v S' = some r →
      Q (lone { b.atR a (.inRegion all (i :: rest) :: kk) with mode := .panicking [{ v := u, recovered := false }] } (cs S'.pan) w')) :
    Q (lone (b.atR a (.inRegion all (i :: rest) :: kk)) (cs S.pan) w) := by
  unfold doOp at h
  split at h
  · rename_i c hop
    split at h
    · rename_i f hgu hca hrd
      split at h
      · rename_i g a1 c1 hf
        have hro : b.roundOf = none := by
          have := F.round; rw [hrd] at this
          cases hb : b.roundOf with
          | none => rfl
          | some l => rw [hb] at this; cases this
        have rf := p.ev f
        rw [hf] at rf
        obtain ⟨va, vc, hfe, ra, rc⟩ := rf
        have hwt : Region.wanted o (yielded all a.tmps) = true := by simp [Region.wanted, hgu]
        have hrun : (o.semAt b.roundOf a.eval).run X.P w = .ok (.defer { target := .fn (.func g) vc, args := va ++ c.args.map a.eval }) w := by
          rw [hro, Oper.semAt_none]
          simp [execOp, hop, resolve, hca, hfe, Deferred.ofValue]
        refine hQ _ _ (op_defer ho hwt hrun) (hk G S w _ _ ?_ h)
        have p1 : Pt n up G S w { e with d := .call (.func g a1 c1) (c.args.toList.map e.ev) :: e.d } { a with defers := { target := .fn (.func g) vc, args := va ++ c.args.map a.eval } :: a.defers } :=
          ⟨p.inv, p.tmps, p.size, ⟨g, a1, c1, va, vc, _, _, rfl, rfl, ra, rc, relL_map p.ev c.args, p.defs⟩, p.pan, p.shape⟩
        have f1 := From.put (o := o) p1 (Step.refl G S w) p.inv rfl hd (undef_rel G)
        exact ⟨f1.step, f1.pt, f1.agree⟩
      · cases h
    · cases h
  · rename_i hdf
    have hdf' : ∀ c, o.op ≠ .defer c := fun c q => hdf c q
    cases hpu : isPure o.op
    · simp only [hpu, cond_false] at h
      have h := (congrArg (fun z => bindC z kp fun v S' => k (e.put o.dst v) S') (guardC_eq (all := all) (o := o) (e := e) (S := S) (x := actOp X o.op o.dst e S))).symm.trans h
      split at h
      · rename_i hwt
        cases hact : actOp X o.op o.dst e S with
        | none => rw [hact] at h; cases h
        | some q =>
          obtain ⟨ans, S'⟩ := q
          rw [hact] at h
          refine actStep F hκ hy hQ ho hdf' (wanted_ok p hwt) p hd hact ?_ ?_
          · rintro v rfl G' w' a' f
            exact hk G' S' w' _ a' f h
          · rintro v u rfl G' w' st pt ru
            exact hp v u G' S' w' st pt ru h
      · rename_i hwt
        have f := From.put p (Step.refl G S w) p.inv rfl hd (undef_rel G)
        exact hQ _ _ (stepR_skip_of ho (wanted_ok p hwt)) (hk G S w _ _ f h)
      · cases h
    · simp only [hpu, cond_true] at h
      have h := (congrArg (fun z => bindP z fun v => k (e.put o.dst v) S) (guardP_eq (all := all) (o := o) (e := e) (x := pureOp X.P o.op e S))).symm.trans h
      unfold bindP at h
      split at h
      · rename_i v hv
        exact pureStep hQ ho hdf' p hd (guardP_eq.trans hv) fun G' w' a' f => hk G' S w' _ a' f h
      · cases h

end
end Go.Sac
