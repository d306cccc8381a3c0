/- The statement. -/
import Derived.Test.YtippafigppeblaaGreatRows
import Derived.WalkKit
import Derived.ProofKit
import Derived.OpenShut
import Derived.Test.YtippafigppeblaaGreatSacAm
import Derived.Test.YtippafigppeblaaGreatSacDis
import Derived.Test.YtippafigppeblaaGreatSacRepP
import Derived.Test.YtippafigppeblaaGreatSacFa
namespace Go.Sac
open Go Go.Proofs
theorem enter276 : ∃ fn c, Tryz.prog.funcs[276]? = some fn ∧ fn.body = some c ∧ fn.name ≠ "runtime.NumGoroutine" := by
  refine ⟨_, _, Tryz.func276, rfl, ?_⟩
  decide
theorem namesOk : Tryz.prog.funcs.toList.all (fun fn => fn.name != "runtime.NumGoroutine" || fn.body.isNone) = true := by kernel_rfl
theorem cfgOk (N : Nat) : CfgOk (Cs N) where
  mixed := by kernel_rfl
  names f fn h hb := by
    have h' : Tryz.prog.funcs[f]? = some fn := h
    have h2 := List.all_eq_true.1 namesOk fn (List.mem_of_getElem? (i := f) (by rw [← h']; simp))
    intro q
    rw [q] at h2
    cases hx : fn.body with
    | none => rw [hx] at hb; cases hb
    | some c => rw [hx] at h2; simp at h2
  foreign f g h := by
    have h : (bif Nat.beq f 276 then some fRepeat else none) = some g := h
    cases hq : Nat.beq f 276
    · rw [hq] at h; cases h
    · rw [hq] at h
      have : f = 276 := by simpa using hq
      subst this
      have h : some fRepeat = some g := h
      cases h
      exact repeat_ok enter276 fun s c w h1 h2 => Tryz.strings_Repeat s c w h1 h2
end Go.Sac
namespace Go.Proofs.YtippafigppeblaaGreat.auditQuiet
open Go.ChangeShapes Go.WideShapes Go.ChangeAt Go.RowKit
set_option linter.unusedVariables false

theorem own : ownKnob Tryz.prog.godebug = none := by kernel_rfl

theorem value : Sac.isTrueR ((Sac.shOr 1000000 60).call 4 [] Sac.St.none) = true := by kernel_rfl

theorem walk (w : World) : Calls Tryz.prog 4 #[] w fun e w' => e = .returned (.bool true) ∧ Below w.heap.size w w' := by
  have h := value
  rw [Sac.shOr_eq] at h
  exact Sac.calls_true (Sac.cfgOk 1000000) h w

set_option maxRecDepth 100000 in
theorem lifted (os : Os) (started : os.Started) (H : Type) (enc : TypeId × Value → H) :
    ReturnsInHanded {} Tryz.checked os 4 .any (Rows.auditQuietSpec.pre6 enc Tryz.prog Tryz.f4 Rows.auditQuietRow.domain false) (Rows.auditQuietSpec.post enc Tryz.prog Tryz.f4 false true false false) := by
  refine returnsInHanded_of_change (C := Tryz.checked) own started (by kernel_rfl) Tryz.func4
    (ChangeSpec.witness6 (enc := enc) (C := Tryz.checked) false ⟨#[], #[], []⟩ 8 (by kernel_rfl) (by kernel_rfl) (by kernel_rfl) (by kernel_rfl)) ?_
  intro W base args ds gs before hval0 hW hcnd _
  have hval : ∀ (j : Nat) t v, Tryz.f4.params[j]? = some t → args[j]? = some v → Value.okWide Tryz.prog W .any base t v := hval0
  have hW' := hW
  obtain ⟨p, q, hA0, hV, rfl, hfz, hnd⟩ := hW
  have hA : DataW.TrodAll enc Tryz.prog W 0 (fun _ => true) true Tryz.f4.params.toList args.toList ds p := hA0
  rw [Tryz.params4] at hA hval
  obtain ⟨rfl, rfl, rfl⟩ := trodAll_none hA
  obtain ⟨rfl, rfl⟩ := trodVars_none hV
  clear hA0 hval0
  simp only [List.append_nil] at hW'
  refine (walk W).mono fun e W' ⟨he, hg⟩ => ?_
  subst he
  exact ⟨_, rfl, post_of_below (pa := []) (pv := []) hW' (fun _ _ _ => (trodAll_cons_mk (shut_bool Tryz.underlying4 _) trodAll_mk0)) (fun sp _ => rfl) (fun _ _ => rfl) rfl
    hg (ok_one (by kernel_rfl) rfl (okWide_bool_mk Tryz.underlying4 _))⟩

theorem over : Rows.auditQuietRow.holds Tryz.pinned (OpenSpec.ofChange Rows.auditQuietSpec) :=
  OpenClaim.holds_of_wide 4 Tryz.f4 rfl rfl rfl rfl rfl rfl rfl ⟨rfl, rfl, rfl, rfl, rfl⟩ rfl rfl rfl rfl rfl (by kernel_rfl) Tryz.func4 closed
    (of_decide_eq_true (by kernel_rfl)) (by unfold Func.isWrapper; first | (rw [if_pos (by decide +kernel)]; kernel_rfl) | (rw [if_neg (by decide +kernel)]; exact ⟨rfl, rfl⟩))
    (fun os started H enc _ => lifted os started H enc)

theorem proved : Rows.AuditQuietSaid :=
  over
#print axioms proved
end Go.Proofs.YtippafigppeblaaGreat.auditQuiet
