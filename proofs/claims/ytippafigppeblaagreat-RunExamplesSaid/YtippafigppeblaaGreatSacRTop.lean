/- The closed statement RunExamples: its function returns true. -/
import Derived.KernelRfl
import Derived.Test.YtippafigppeblaaGreatSacRM
import Derived.Test.YtippafigppeblaaGreatSacRC
import Derived.Test.YtippafigppeblaaGreatSacRFk1
import Derived.Test.YtippafigppeblaaGreatSacRFk2
import Derived.Test.YtippafigppeblaaGreatSacRFl2
import Derived.Test.YtippafigppeblaaGreatSacRFk3
import Derived.Test.YtippafigppeblaaGreatSacRFl3
import Derived.Test.YtippafigppeblaaGreatRows
import Derived.WalkKit
import Derived.ProofKit
import Derived.OpenShut
import Derived.Test.YtippafigppeblaaGreatSacAm
import Derived.Test.YtippafigppeblaaGreatSacRepP
import Derived.Test.YtippafigppeblaaGreatSacRFa
namespace Go.Sac
set_option maxRecDepth 100000
theorem k15 : frozenIs ((fastOr 59).call 15 [] St.none) (.bool true) = true := by kernel_rfl
def tabA (κ : Oracle) (args : List AV) (S : St) : R := match args with
  | [] => some (.ret (.bool true), S)
  | a :: l => apart κ 15 (a :: l) S
theorem main_true : isTrueR (s3 1000000 (shOr 1000000 59) (tab8 (shOr 1000000 59).toOracle) (tabA (shOr 1000000 59).toOracle) St.none) = true := by kernel_rfl
theorem fast59 : fastOr 59 = shOr 1000000 59 := fastOr_eq 59
theorem k1' : frozenIs ((shOr 1000000 59).call 8 a1 St.none) r1 = true := by rw [← fast59]; exact k1
theorem k2' : bulky ((shOr 1000000 59).call 8 a2 St.none) = true := by rw [← fast59]; exact k2
theorem l2' : frozenIs ((shOr 1000000 59).call 8 b2 St.none) r2 = true := by rw [← fast59]; exact l2
theorem k3' : bulky ((shOr 1000000 59).call 8 a3 St.none) = true := by rw [← fast59]; exact k3
theorem l3' : frozenIs ((shOr 1000000 59).call 8 b3 St.none) r3 = true := by rw [← fast59]; exact l3
theorem k15' : frozenIs ((shOr 1000000 59).call 15 [] St.none) (.bool true) = true := by rw [← fast59]; exact k15
theorem tab8_eq (args : List AV) (S : St) : tab8 (shOr 1000000 59).toOracle args S = apart (shOr 1000000 59).toOracle 8 args S := by
  unfold tab8
  cases h1 : shutIs args a1
  · cases h2 : lentIs S args a2 b2
    · cases h3 : lentIs S args a3 b3
      · rfl
      · exact (apartT_lent h3 k3' l3').symm
    · exact (apartT_lent h2 k2' l2').symm
  · exact (apartT_shut h1 k1').symm
theorem tabA_eq (args : List AV) (S : St) : tabA (shOr 1000000 59).toOracle args S = apart (shOr 1000000 59).toOracle 15 args S := by
  cases args with
  | nil => exact (apartT_shut (args := []) (a := []) rfl k15').symm
  | cons a l => rfl
theorem run_call (C : Cfg) (n : Nat) (f : FuncId) (args : List AV) (S : St) : (run C (n + 1)).call f args S = runF C (run C n) false f args S := rfl
theorem value : isTrueR ((run (Cs 1000000) 60).call 3 [] St.none) = true := by
  have h := main_true
  rw [show tab8 (shOr 1000000 59).toOracle = apart (shOr 1000000 59).toOracle 8 from funext fun a => funext fun S => tab8_eq a S,
    show tabA (shOr 1000000 59).toOracle = apart (shOr 1000000 59).toOracle 15 from funext fun a => funext fun S => tabA_eq a S, ← e3, shOr_eq] at h
  rw [show (60 : Nat) = 59 + 1 from rfl, run_call]
  exact h
end Go.Sac
namespace Go.Sac
open Go Go.Proofs
theorem enter276 : ∃ fn c, Tryz.prog.funcs[276]? = some fn ∧ fn.body = some c ∧ fn.name ≠ "runtime.NumGoroutine" := by
  refine ⟨_, _, Tryz.func276, rfl, ?_⟩
  decide
theorem namesOk : Tryz.prog.funcs.toList.all (fun fn => fn.name != "runtime.NumGoroutine" || fn.body.isNone) = true := by kernel_rfl
theorem cfgOk (N : Nat) : CfgOk (Cs N) where
  mixed := by kernel_rfl
  names f fn h hb := by
    have h' : Tryz.prog.funcs[f]? = some fn := h
    have h2 := List.all_eq_true.1 namesOk fn (List.mem_of_getElem? (i := f) (by rw [← h']; simp))
    intro q
    rw [q] at h2
    cases hx : fn.body with
    | none => rw [hx] at hb; cases hb
    | some c => rw [hx] at h2; simp at h2
  foreign f g h := by
    have h : (bif Nat.beq f 276 then some fRepeat else none) = some g := h
    cases hq : Nat.beq f 276
    · rw [hq] at h; cases h
    · rw [hq] at h
      have : f = 276 := by simpa using hq
      subst this
      have h : some fRepeat = some g := h
      cases h
      exact repeat_ok enter276 fun s c w h1 h2 => Tryz.strings_Repeat s c w h1 h2
end Go.Sac
namespace Go.Proofs.YtippafigppeblaaGreat.runExamples
open Go.ChangeShapes Go.WideShapes Go.ChangeAt Go.RowKit
set_option linter.unusedVariables false

theorem own : ownKnob Tryz.prog.godebug = none := by kernel_rfl

theorem walk (w : World) : Calls Tryz.prog 3 #[] w fun e w' => e = .returned (.bool true) ∧ Below w.heap.size w w' :=
  Sac.calls_true (Sac.cfgOk 1000000) Sac.value w

set_option maxRecDepth 100000 in
theorem lifted (os : Os) (started : os.Started) (H : Type) (enc : TypeId × Value → H) :
    ReturnsInHanded {} Tryz.checked os 3 .any (Rows.runExamplesSpec.pre6 enc Tryz.prog Tryz.f3 Rows.runExamplesRow.domain false) (Rows.runExamplesSpec.post enc Tryz.prog Tryz.f3 false true false false) := by
  refine returnsInHanded_of_change (C := Tryz.checked) own started (by kernel_rfl) Tryz.func3
    (ChangeSpec.witness6 (enc := enc) (C := Tryz.checked) false ⟨#[], #[], []⟩ 8 (by kernel_rfl) (by kernel_rfl) (by kernel_rfl) (by kernel_rfl)) ?_
  intro W base args ds gs before hval0 hW hcnd _
  have hval : ∀ (j : Nat) t v, Tryz.f3.params[j]? = some t → args[j]? = some v → Value.okWide Tryz.prog W .any base t v := hval0
  have hW' := hW
  obtain ⟨p, q, hA0, hV, rfl, hfz, hnd⟩ := hW
  have hA : DataW.TrodAll enc Tryz.prog W 0 (fun _ => true) true Tryz.f3.params.toList args.toList ds p := hA0
  rw [Tryz.params3] at hA hval
  obtain ⟨rfl, rfl, rfl⟩ := trodAll_none hA
  obtain ⟨rfl, rfl⟩ := trodVars_none hV
  clear hA0 hval0
  simp only [List.append_nil] at hW'
  refine (walk W).mono fun e W' ⟨he, hg⟩ => ?_
  subst he
  exact ⟨_, rfl, post_of_below (pa := []) (pv := []) hW' (fun _ _ _ => (trodAll_cons_mk (shut_bool Tryz.underlying4 _) trodAll_mk0)) (fun sp _ => rfl) (fun _ _ => rfl) rfl
    hg (ok_one (by kernel_rfl) rfl (okWide_bool_mk Tryz.underlying4 _))⟩

theorem over : Rows.runExamplesRow.holds Tryz.pinned (OpenSpec.ofChange Rows.runExamplesSpec) :=
  OpenClaim.holds_of_wide 3 Tryz.f3 rfl rfl rfl rfl rfl rfl rfl ⟨rfl, rfl, rfl, rfl, rfl⟩ rfl rfl rfl rfl rfl (by kernel_rfl) Tryz.func3 closed
    (of_decide_eq_true (by kernel_rfl)) (by unfold Func.isWrapper; first | (rw [if_pos (by decide +kernel)]; kernel_rfl) | (rw [if_neg (by decide +kernel)]; exact ⟨rfl, rfl⟩))
    (fun os started H enc _ => lifted os started H enc)

theorem proved : Rows.RunExamplesSaid :=
  over
#print axioms proved
end Go.Proofs.YtippafigppeblaaGreat.runExamples
