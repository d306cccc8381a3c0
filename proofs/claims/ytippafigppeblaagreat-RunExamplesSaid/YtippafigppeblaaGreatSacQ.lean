/- Operations that turn the state: all but calls. -/
import Derived.Test.YtippafigppeblaaGreatSacOa
namespace Go.Sac
set_option linter.unusedVariables false
set_option linter.unusedSimpArgs false
open Go

section
variable {P : Program} {G : Gh} {S : St} {w : World}

/-- An operation that is no call into the program, no panic and no 'recover'. -/
def plainAct : Op → Bool
  | .alloc _ | .box .. | .buildSlice .. | .insert .. | .mapUpdate .. | .store .. | .makeMap .. | .makeSlice .. | .mapEntry .. | .entryStore .. | .range .. | .next .. | .entry .. => true
  | .call { callee := .builtin b, .. } => match b with
    | .append | .copy | .delete | .clear => true
    | _ => false
  | _ => false

theorem two {α : Type} {xs : Array α} {a b : α} (h : xs.toList = [a, b]) : xs = #[a, b] := by apply Array.ext'; simpa using h
theorem one {α : Type} {xs : Array α} {a : α} (h : xs.toList = [a]) : xs = #[a] := by apply Array.ext'; simpa using h

theorem okv_eq {r : Option (AV × St)} {v : AV} {S' : St} (h : okv r = some (.ret v, S')) : r = some (v, S') := by
  simp only [okv, Option.map_eq_some_iff] at h
  obtain ⟨⟨a, b⟩, h, e⟩ := h
  cases e; exact h

theorem ok_eq {r : Option St} {v : AV} {S' : St} (h : ok r = some (.ret v, S')) : r = some S' ∧ v = undefA := by
  simp only [ok, Option.map_eq_some_iff] at h
  obtain ⟨a, h, e⟩ := h
  cases e; exact ⟨h, rfl⟩

theorem act_ok {X : Ctx} (inv : Inv G S w) {e : Env} {ρ : Operand → Value} (ev : EvOk G e ρ) {o : Oper} {v : AV} {S' : St} (hp : plainAct o.op = true) (h : actOp X o.op o.dst e S = some (.ret v, S')) :
    AOk X.P G S w (execOp ρ o) v S' := by
  obtain ⟨dst, op, type, guard⟩ := o
  cases op <;> simp only [plainAct, Bool.false_eq_true] at hp <;> try (cases hp; done)
  case alloc t =>
    simp only [actOp] at h
    cases ho : okT X.P t
    · simp [ho] at h
    · simp only [ho, cond_true] at h
      have h := okv_eq h
      cases h
      exact alloc_ok inv ho
  case box t x =>
    simp only [actOp, Option.bind_eq_some_iff] at h
    obtain ⟨cs, h1, h⟩ := h
    have h := okv_eq h
    cases h
    exact box_ok inv h1 (ev x)
  case buildSlice t len parts =>
    simp only [actOp, Option.bind_eq_some_iff] at h
    obtain ⟨r, h1, h⟩ := h
    have hi : (parts.toList.map fun p => (p.1, e.ev p.2)).map (·.1) = (parts.map fun (i, x) => (i, ρ x)).toList.map (·.1) := by simp [Function.comp_def]
    have hr : RelL G ((parts.toList.map fun p => (p.1, e.ev p.2)).map (·.2)) ((parts.map fun (i, x) => (i, ρ x)).toList.map (·.2)) := by
      simpa [Function.comp_def] using evs_rel ev (parts.toList.map (·.2))
    generalize how : X.ownAt dst = own at h
    cases own
    · simp only [cond_false, Option.some.injEq, Prod.mk.injEq, Ans.ret.injEq] at h
      obtain ⟨rfl, rfl⟩ := h
      exact buildSlice_ok inv false h1 hi hr rfl
    · simp only [cond_true] at h
      have h := okv_eq h
      cases h
      exact buildSlice_ok inv true h1 hi hr rfl
  case store t a x =>
    simp only [actOp] at h
    cases ho : (X.P.info? t).isSome
    · simp [ho] at h
    · simp only [ho, cond_true] at h
      obtain ⟨h', rfl⟩ := ok_eq h
      exact store_ok inv ho h' (ev a) (ev x)
  case insert t m k x =>
    simp only [actOp] at h
    obtain ⟨h', rfl⟩ := ok_eq h
    exact insert_ok inv h' (ev m) (ev k) (ev x)
  case mapUpdate t m k x =>
    simp only [actOp] at h
    obtain ⟨h', rfl⟩ := ok_eq h
    exact insert_ok inv h' (ev m) (ev k) (ev x)
  case makeMap t r =>
    simp only [actOp] at h
    split at h
    · have h := okv_eq h
      cases h
      exact makeMap_ok inv
    · rename_i r
      split at h
      · rename_i kt et k n hu hr
        have h := okv_eq h
        cases h
        have rr := ev r
        rw [hr] at rr; simp only [Rel] at rr
        obtain ⟨y, G', w', h1, h2⟩ := makeMap_ok (P := X.P) inv
        refine ⟨y, G', w', ?_, h2⟩
        rw [← h1]
        simp [execOp, Instr.makeMap, run_underlying hu, rr, asInt, asIntOf]
      · cases h
  case makeSlice t l c =>
    simp only [actOp] at h
    exact makeSlice_ok inv (okv_eq h) (ev l) (ev c)
  case mapEntry t m k =>
    simp only [actOp] at h
    exact mapEntry_ok inv (okv_eq h) (ev m) (ev k)
  case range t x =>
    simp only [actOp] at h
    exact range_ok inv (okv_eq h) (ev x)
  case next it str =>
    simp only [actOp] at h
    cases str
    · simp only [cond_false] at h
      exact next_ok inv (okv_eq h) (ev it) _
    · cases h
  case entry it =>
    simp only [actOp] at h
    exact entry_ok inv (okv_eq h) (ev it)
  case entryStore t m s x =>
    simp only [actOp] at h
    obtain ⟨h', rfl⟩ := ok_eq h
    exact entryStore_ok inv h' (ev m) (ev s) (ev x)
  case call c =>
    obtain ⟨callee, args, tys⟩ := c
    cases callee <;> simp only [Bool.false_eq_true] at hp
    rename_i b
    have split2 : ∀ {a b : AV}, args.toList.map e.ev = [a, b] → ∃ x y, args = #[x, y] ∧ a = e.ev x ∧ b = e.ev y := by
      intro a b h
      have hl := congrArg List.length h
      match hx : args.toList, h, hl with
      | [x, y], h, _ => simp at h; exact ⟨x, y, two hx, h.1.symm, h.2.symm⟩
      | [], _, hl => simp at hl
      | [_], _, hl => simp at hl
      | _ :: _ :: _ :: _, _, hl => simp at hl
    have split1 : ∀ {a : AV}, args.toList.map e.ev = [a] → ∃ x, args = #[x] ∧ a = e.ev x := by
      intro a h
      have hl := congrArg List.length h
      match hx : args.toList, h, hl with
      | [x], h, _ => simp at h; exact ⟨x, one hx, h.symm⟩
      | [], _, hl => simp at hl
      | _ :: _ :: _, _, hl => simp at hl
    have run : ∀ s : Sem Value, (∀ w, (builtin b tys type (args.map fun | .const _ => true | _ => false) (args.map ρ)).run X.P w = (do pure (.value (← s)) : Sem Next).run X.P w) →
        AOk X.P G S w (do pure (.value (← s))) v S' → AOk X.P G S w (execOp ρ ⟨dst, .call ⟨.builtin b, args, tys⟩, type, guard, ‹_›, ‹_›⟩) v S' := by
      rintro s hs ⟨y, G', w', h1, h2⟩
      refine ⟨y, G', w', ?_, h2⟩
      rw [← h1, ← hs]
      rfl
    cases b <;> simp only [Bool.false_eq_true] at hp <;> simp only [actOp, oBuiltin] at h
    case append =>
      split at h
      · rename_i s x t u ha ht
        obtain ⟨xs, xx, rfl, rfl, rfl⟩ := split2 ha
        have ht := two ht
        subst ht
        split at h
        · cases h
        · rename_i el d hn hu hd
          cases ho : okT X.P el
          · simp [ho] at h
          · simp only [ho, Bool.not_true, cond_false, Option.bind_eq_some_iff] at h
            obtain ⟨new, h1, h⟩ := h
            obtain ⟨i, z, hi, hz, hzs, his⟩ := okT_spec ho
            have h := okv_eq h
            have hb : bytesT X.P el = i.bytes := by simp [bytesT, hi]
            rw [hb] at h
            refine run _ (fun w => ?_) (append_ok inv ⟨d, i, z, hu, hd, hn, hi, hz, hzs, his⟩ h1 h (ev xs) (ev xx) type)
            simp [builtin]
        · cases h
      · cases h
    case copy =>
      split at h
      · rename_i d s t u ha ht
        obtain ⟨xs, xx, rfl, rfl, rfl⟩ := split2 ha
        have ht := two ht
        subst ht
        split at h
        · rename_i el hu
          cases ho : (X.P.info? el).isSome
          · simp [ho] at h
          · simp only [ho, cond_true] at h
            refine run _ (fun w => ?_) (copy_ok (u := u) inv hu ho (okv_eq h) (ev xs) (ev xx) type)
            simp [builtin]
        · cases h
      · cases h
    case delete =>
      split at h
      · rename_i d s t u ha ht
        obtain ⟨xs, xx, rfl, rfl, rfl⟩ := split2 ha
        have ht := two ht
        subst ht
        obtain ⟨h', rfl⟩ := ok_eq h
        refine run _ (fun w => ?_) (delete_ok inv h' (ev xs) (ev xx) type u)
        simp [builtin]
      · cases h
    case clear =>
      split at h
      · rename_i m t ha ht
        obtain ⟨xs, rfl, rfl⟩ := split1 ha
        have ht := one ht
        subst ht
        split at h
        · rename_i d o hu hm
          split at h
          · rename_i es c ho
            obtain ⟨h', rfl⟩ := ok_eq h
            cases h'
            refine run _ (fun w => ?_) (clear_ok inv hu (by rw [← hm]; exact ev xs) ho type)
            simp [builtin]
          · cases h
        · cases h
      · cases h

end
end Go.Sac
