/- A region in the program's order. -/
import Derived.Test.YtippafigppeblaaGreatSacAc
namespace Go.Sac
set_option linter.unusedVariables false
set_option linter.unusedSimpArgs false
open Go

section
variable {X : Ctx} {b : Frame} {cs : Callers} {up : Up} {n : Nat} {Q : Machine → Prop} {all : Array Oper} {kk : List Item}

theorem runOps_ok (F : FOk X b cs up) (hκ : CallOk X.P X.κ.call) (hy : YldOk X.P X.κ.yld) (hQ : Closed X.P Q) (W : Nat → Prop) (hW : ∀ o ∈ all.toList, ∀ d, o.dst = some d → W d ∧ d < n) {K : Kont} {r : Ans × St} :
    ∀ (l : List Oper) (j : Nat), all.toList.drop j = l → ∀ {G : Gh} {S : St} {w : World} {e : Env} {a : Act}, Pt n up G S w e a → runOps X all l e S K.panic K.normal = some r →
      KOk Q r b cs n up kk W G S w e K → Q (lone (b.atR a (.inRegion all (List.range' j l.length) :: kk)) (cs S.pan) w)
  | [], j, hl, G, S, w, e, a, p, h, ko => by
    refine hQ _ _ stepR_region_end ?_
    exact ko.normal G S w e a ⟨Step.refl G S w, p, fun _ _ => rfl⟩ h
  | o :: l, j, hl, G, S, w, e, a, p, h, ko => by
    have ho : all[j]? = some o := by
      have := congrArg (fun z => z[0]?) hl
      simpa using this
    have hl' : all.toList.drop (j + 1) = l := by
      have := congrArg List.tail hl
      simpa using this
    have hmem : o ∈ all.toList := by
      have : o ∈ all.toList.drop j := by rw [hl]; simp
      exact List.mem_of_mem_drop this
    simp only [runOps] at h
    rw [List.length_cons, List.range'_succ]
    refine doOp_ok F hκ hy hQ ho p (fun d hd => (hW o hmem d hd).2) h ?_ ?_
    · intro G' S' w' e' a' f h'
      have f' : From n up W G S w e G' S' w' e' a' := f.weak fun i hi => (hW o hmem i hi).1
      exact runOps_ok F hκ hy hQ W hW l (j + 1) hl' f'.pt h' (ko.shift f' fun _ q => q)
    · intro v u G' S' w' st pt ru h'
      exact ko.panic v u G' S' w' e a ⟨st, pt, fun _ _ => rfl⟩ h' ru _

end
end Go.Sac
