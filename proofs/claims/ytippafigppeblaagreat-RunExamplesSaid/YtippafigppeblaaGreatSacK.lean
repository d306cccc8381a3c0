/- Operations that leave the state alone: all of them. -/
import Derived.Test.YtippafigppeblaaGreatSacJ
namespace Go.Sac
set_option linter.unusedVariables false
set_option linter.unusedSimpArgs false
open Go

section
variable {P : Program} {G : Gh} {S : St} {w : World}

/-- An operation that yields a value, in the state as it was. -/
def Yields (P : Program) (G : Gh) (S : St) (w : World) (s : Sem Next) (v : AV) : Prop :=
  ∃ cv G' w', s.run P w = .ok (.value cv) w' ∧ Rel G' v cv ∧ Inv G' S w' ∧ Step G S w G' S w'

theorem VOk.yields {s : Sem Value} {v : AV} (h : VOk P G S w s v) : Yields P G S w (do pure (.value (← s))) v := by
  obtain ⟨cv, G', w', h1, h2, h3, h4⟩ := h
  exact ⟨cv, G', w', by simp [h1], h2, h3, h4⟩

theorem still (inv : Inv G S w) {s : Sem Value} {v : AV} (h : ∃ u, s.run P w = .ok u w ∧ Rel G v u) : Yields P G S w (do pure (.value (← s))) v := by
  obtain ⟨u, h1, h2⟩ := h
  exact (VOk.still inv h1 h2).yields

theorem relL_map {e : Env} {ρ : Operand → Value} (ev : EvOk G e ρ) (xs : Array Operand) : RelL G (xs.toList.map e.ev) (xs.map ρ).toList := by
  rw [Array.toList_map]
  exact evs_rel ev xs.toList

theorem pure_ok (inv : Inv G S w) {e : Env} {ρ : Operand → Value} (ev : EvOk G e ρ) {o : Oper} {v : AV} (h : pureOp P o.op e S = some v) : Yields P G S w (execOp ρ o) v := by
  obtain ⟨dst, op, type, guard⟩ := o
  cases op <;> simp only [pureOp] at h
  case move x => cases h; exact ⟨_, G, w, rfl, ev x, inv, Step.refl G S w⟩
  case assign x => cases h; exact ⟨_, G, w, rfl, ev x, inv, Step.refl G S w⟩
  case pick c a b =>
    have rc := ev c
    split at h
    · rename_i hc
      rw [hc] at rc; simp only [Rel] at rc
      cases h
      exact ⟨ρ a, G, w, by simp [execOp, rc, asBool], ev a, inv, Step.refl G S w⟩
    · rename_i hc
      rw [hc] at rc; simp only [Rel] at rc
      cases h
      exact ⟨ρ b, G, w, by simp [execOp, rc, asBool], ev b, inv, Step.refl G S w⟩
    · cases h
  case build t parts =>
    refine still inv (build_ok h ?_ ?_)
    · simp [Function.comp_def]
    · simpa [Function.comp_def] using evs_rel ev (parts.toList.map (·.2))
  case load t a =>
    cases hs : (P.underlying t).isSome
    · simp [hs] at h
    · simp only [hs, cond_true] at h
      exact still inv (load_ok inv hs h (ev a))
  case nilCheck x =>
    have rx := ev x
    split at h
    · rename_i hx
      rw [hx] at rx
      cases h
      have : ∃ a, ρ x = .pointer (some a) := by
        simp only [Rel] at rx
        split at rx
        · exact ⟨_, rx⟩
        · obtain ⟨a, q, _⟩ := rx; exact ⟨a, q⟩
        · exact rx.elim
      obtain ⟨a, ha⟩ := this
      exact ⟨ρ x, G, w, by simp [execOp, ha], rx, inv, Step.refl G S w⟩
    · rename_i hx
      rw [hx] at rx
      cases h
      have : ∃ a, ρ x = .pointer (some a) := by
        simp only [Rel] at rx
        obtain ⟨b, base, q, _⟩ := rx; exact ⟨_, q⟩
      obtain ⟨a, ha⟩ := this
      exact ⟨ρ x, G, w, by simp [execOp, ha], rx, inv, Step.refl G S w⟩
    · rename_i hx
      rw [hx] at rx
      cases h
      have : ∃ f a c, ρ x = .func (.func f) a c := by
        simp only [Rel] at rx
        obtain ⟨a, c, q, _⟩ := rx; exact ⟨_, _, _, q⟩
      obtain ⟨f, a, c, ha⟩ := this
      exact ⟨ρ x, G, w, by simp [execOp, ha], rx, inv, Step.refl G S w⟩
    · cases h
  case binOp op t x y r => exact still inv (oBin_ok ev h)
  case unOp op t x => exact still inv (oUn_ok h (ev x))
  case convert s d x => exact (convert_ok inv h (ev x)).yields
  case makeInterface t x =>
    have rx := ev x
    have : ∃ d, P.underlying t = some d ∧ (∀ ms, d ≠ .interface ms) ∧ v = .iface t (e.ev x) := by
      cases hu : P.underlying t with
      | none => simp [hu] at h
      | some d =>
        rw [hu] at h
        cases hx : e.ev x <;> rw [hx] at h <;> cases d <;> simp at h <;> exact ⟨_, rfl, by simp, by simp [h]⟩
    obtain ⟨d, hu, hn, rfl⟩ := this
    refine still inv ⟨.iface t (ρ x), ?_, _, rfl, rx⟩
    cases d <;> first | exact absurd rfl (hn _) | simp [Instr.makeInterface, run_underlying hu]
  case makeFunc fn first captured =>
    cases fn <;> simp only at h <;> try (cases h; done)
    cases h
    exact still inv ⟨_, rfl, _, _, rfl, relL_map ev first, relL_map ev captured⟩
  case slice t x lo hi mx =>
    split at h
    · rename_i el hu
      cases hs : ((P.info? el).isSome && sliceV (e.ev x))
      · simp [hs] at h
      · simp only [hs, cond_true] at h
        simp only [Bool.and_eq_true] at hs
        exact still inv (sliceS_ok hu hs.1 hs.2 h (ev x) (RelO.map ev lo) (RelO.map ev hi) (RelO.map ev mx))
    · rename_i hu
      cases hs : strV (e.ev x)
      · simp [hs] at h
      · simp only [hs, cond_true] at h
        exact still inv (sliceT_ok hu hs h (ev x) (RelO.map ev lo) (RelO.map ev hi) (RelO.map ev mx))
    · rename_i n el hu
      cases hs : ((P.info? el).isSome && ptrV (e.ev x))
      · simp [hs] at h
      · simp only [hs, cond_true] at h
        simp only [Bool.and_eq_true] at hs
        exact still inv (sliceA_ok hu hs.1 hs.2 h (ev x) (RelO.map ev lo) (RelO.map ev hi) (RelO.map ev mx))
    · cases h
  case fieldAddr t x f =>
    simp only [Option.bind_eq_some_iff] at h
    obtain ⟨fd, h1, h2⟩ := h
    exact still inv (fieldAddr_ok h1 h2 (ev x))
  case field t x f =>
    simp only [Option.bind_eq_some_iff] at h
    obtain ⟨fd, h1, h2⟩ := h
    cases hs : (P.underlying fd.type).isSome
    · simp [hs] at h2
    · simp only [hs, cond_true] at h2
      exact still inv (field_ok h1 hs h2 (ev x))
  case indexAddr t x i =>
    split at h
    · rename_i el hu
      cases hs : (P.info? el).isSome
      · simp [hs] at h
      · simp only [hs, cond_true] at h
        exact still inv (indexAddrS_ok hu hs h (ev x) (ev i))
    · rename_i n el hu
      cases hs : (P.info? el).isSome
      · simp [hs] at h
      · simp only [hs, cond_true] at h
        exact still inv (indexAddrA_ok hu hs h (ev x) (ev i))
    · cases h
  case index t x i =>
    split at h
    · rename_i hu
      exact still inv (indexStr_ok hu h (ev x) (ev i))
    · rename_i n el hu
      cases hs : (P.underlying el).isSome
      · simp [hs] at h
      · simp only [hs, cond_true] at h
        exact still inv (indexArr_ok hu hs h (ev x) (ev i))
    · cases h
  case lookup t m k ok => exact still inv (lookup_ok inv h (ev m) (ev k))
  case typeAssert x xt t ok => exact still inv (typeAssert_ok h (ev x))
  case extract x i => exact still inv (extract_ok h (ev x))
  case call c =>
    obtain ⟨callee, args, tys⟩ := c
    cases callee <;> try (simp at h; done)
    rename_i b
    cases b <;> simp only at h <;> try (cases h; done)
    case len =>
      split at h
      · rename_i x t ha ht
        have ha : args = #[x] := by apply Array.ext'; simpa using ha
        have ht : tys = #[t] := by apply Array.ext'; simpa using ht
        subst ha ht
        split at h
        · rename_i d hu
          simp only [Option.map_eq_some_iff] at h
          obtain ⟨n, h, rfl⟩ := h
          have := len_ok inv hu h (ev x) type
          refine ⟨.int .i64 n, G, w, ?_, rfl, inv, Step.refl G S w⟩
          simp [execOp, resolve, invoke, builtin, this]
        · cases h
      · cases h
    case max =>
      obtain ⟨u, p, q⟩ := maxmin_ok (P := P) (w := w) (isMax := true) h (relL_map ev args) tys type
      refine ⟨u, G, w, ?_, q, inv, Step.refl G S w⟩
      simp at p
      simp [execOp, resolve, invoke, builtin, p]
    case min =>
      obtain ⟨u, p, q⟩ := maxmin_ok (P := P) (w := w) (isMax := false) h (relL_map ev args) tys type
      refine ⟨u, G, w, ?_, q, inv, Step.refl G S w⟩
      simp at p
      simp [execOp, resolve, invoke, builtin, p]
  all_goals (cases h)

end
end Go.Sac
