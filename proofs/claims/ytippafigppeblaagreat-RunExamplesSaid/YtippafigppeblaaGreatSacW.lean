/- One operation after the other. -/
import Derived.Test.YtippafigppeblaaGreatSacV
namespace Go.Sac
set_option linter.unusedVariables false
set_option linter.unusedSimpArgs false
open Go

theorem oWrite_pan {S S' : St} {o off : Nat} {cs : List AV} (h : oWrite S o off cs = some S') : S'.pan = S.pan := by
  unfold oWrite at h
  split at h
  · cases hb : Nat.ble (off + cs.length) (List.length ‹_›) <;> simp [hb] at h; subst h; rfl
  · cases h

theorem oAppend_pan {own : Bool} {sz bytes : Nat} {S S' : St} {s v : AV} {new : List AV} (h : oAppend own sz bytes S s new = some (v, S')) : S'.pan = S.pan := by
  unfold oAppend at h
  split at h
  · cases hs : sliceV s <;> simp [hs] at h; rw [← h.2]
  · simp only [Option.bind_eq_some_iff] at h
    obtain ⟨old, _, h⟩ := h
    revert h
    generalize (Nat.ble ((old.length + new.length) * bytes) bound47 && Nat.ble (old.length + new.length) maxStr && !Nat.beq sz 0 && !Nat.beq bytes 0) = c
    intro h
    cases c
    · cases h
    · simp only [cond_true] at h
      have fr : ∀ {v S'}, (match own with
          | false => some (AV.lst (.opn S.tips.length (old.length + new.length)) sz (old ++ new), { S with tips := S.tips ++ [old.length + new.length] })
          | true => (flat (old ++ new)).map fun cs => (AV.sl S.objs.length 0 (old.length + new.length) none sz, S.push (.cells cs))) = some (v, S') → S'.pan = S.pan := by
        intro v S' h
        cases own
        · simp at h; rw [← h.2]
        · simp only [Option.map_eq_some_iff, Prod.mk.injEq] at h
          obtain ⟨_, _, _, rfl⟩ := h; rfl
      split at h
      · exact fr h
      · exact fr h
      · split at h
        · rename_i p _
          revert h
          generalize (Nat.beq p _ && !own && Nat.beq sz _) = c
          intro h
          cases c
          · cases h
          · simp at h; rw [← h.2]
        · cases h
      · revert h
        generalize Nat.ble _ _ = c
        intro h
        cases c
        · exact fr h
        · simp only [cond_true, Option.bind_eq_some_iff, Option.map_eq_some_iff, Prod.mk.injEq] at h
          obtain ⟨_, _, _, hw, _, rfl⟩ := h
          exact oWrite_pan hw
      · split at h
        · revert h
          generalize (own && _ && _) = c
          intro h
          cases c
          · cases h
          · simp only [cond_true, Option.map_eq_some_iff, Prod.mk.injEq] at h
            obtain ⟨_, _, _, rfl⟩ := h; rfl
        · cases h
      · cases h

theorem act_pan {X : Ctx} {e : Env} {S S' : St} {o : Oper} {v : AV} (hp : plainAct o.op = true) (h : actOp X o.op o.dst e S = some (.ret v, S')) : S'.pan = S.pan := by
  obtain ⟨dst, op, type, guard⟩ := o
  cases op <;> simp only [plainAct, Bool.false_eq_true] at hp <;> simp only [actOp] at h
  case alloc t =>
    cases ho : okT X.P t <;> simp only [ho, cond_true, cond_false, reduceCtorEq] at h
    have h := okv_eq h; cases h; rfl
  case box t x =>
    simp only [Option.bind_eq_some_iff] at h
    obtain ⟨cs, h1, h⟩ := h
    have h := okv_eq h; cases h; rfl
  case buildSlice t len parts =>
    simp only [Option.bind_eq_some_iff] at h
    obtain ⟨r, h1, h⟩ := h
    cases ho : X.ownAt dst <;> simp only [ho, cond_true, cond_false] at h
    · simp at h; rw [h.2]
    · have h := okv_eq h; cases h; rfl
  case store t a x =>
    cases ho : (X.P.info? t).isSome <;> simp only [ho, cond_true, cond_false, reduceCtorEq] at h
    have h := (ok_eq h).1
    unfold oStore at h
    split at h
    · revert h; generalize Nat.beq _ _ = c; intro h
      cases c
      · cases h
      · exact oWrite_pan h
    · cases h
  case insert t m k x =>
    have h := (ok_eq h).1
    unfold oMapUpdate at h
    split at h
    · split at h
      · revert h; generalize keyOk _ _ _ = c; intro h
        cases c
        · cases h
        · simp only [cond_true] at h
          split at h
          · cases h
          · simp only [Option.map_eq_some_iff] at h
            obtain ⟨r, _, h⟩ := h
            split at h <;> (subst h; rfl)
      · cases h
    · cases h
  case mapUpdate t m k x =>
    have h := (ok_eq h).1
    unfold oMapUpdate at h
    split at h
    · split at h
      · revert h; generalize keyOk _ _ _ = c; intro h
        cases c
        · cases h
        · simp only [cond_true] at h
          split at h
          · cases h
          · simp only [Option.map_eq_some_iff] at h
            obtain ⟨r, _, h⟩ := h
            split at h <;> (subst h; rfl)
      · cases h
    · cases h
  case makeMap t r =>
    split at h
    · have h := okv_eq h; cases h; rfl
    · split at h
      · have h := okv_eq h; cases h; rfl
      · cases h
  case makeSlice t l c =>
    have h := okv_eq h
    unfold oMakeSlice at h
    split at h
    · revert h; generalize (okT _ _ && _ && _ && _) = c; intro h
      cases c
      · cases h
      · simp at h; rw [← h.2]; rfl
    · cases h
  case mapEntry t m k =>
    have h := okv_eq h
    unfold oMapEntry at h
    split at h
    · split at h
      · revert h; generalize (keyOk _ _ _ && _) = c; intro h
        cases c
        · cases h
        · simp only [cond_true, Option.bind_eq_some_iff] at h
          obtain ⟨r, _, h⟩ := h
          split at h
          · simp at h; rw [← h.2]; rfl
          · simp only [Option.map_eq_some_iff, Prod.mk.injEq] at h
            obtain ⟨_, _, _, rfl⟩ := h; rfl
      · cases h
    · cases h
  case range t x =>
    have h := okv_eq h
    unfold oRange at h
    split at h
    · cases h; rfl
    · split at h
      · cases h; rfl
      · cases h
    · cases h
  case next it str =>
    cases str
    · have h := okv_eq h
      unfold oNext at h
      split at h
      · split at h
        · cases h; rfl
        · split at h
          · revert h; generalize (!List.isEmpty _ && _ && _) = c; intro h
            cases c
            · simp only [cond_false] at h
              split at h
              · cases h; rfl
              · revert h; generalize Nat.blt _ _ = c; intro h
                cases c
                · cases h
                · cases h; rfl
              · cases h
            · cases h
          · cases h
        · cases h
      · cases h
    · cases h
  case entry it =>
    have h := okv_eq h
    unfold oEntry at h
    split at h
    · split at h
      · split at h
        · revert h; generalize Nat.beq _ _ = c; intro h
          cases c
          · cases h
          · simp only [cond_true, Option.bind_eq_some_iff, Option.map_eq_some_iff, Prod.mk.injEq] at h
            obtain ⟨_, _, _, _, _, rfl⟩ := h; rfl
        · cases h
      · cases h
    · cases h
  case entryStore t m s x =>
    have h := (ok_eq h).1
    unfold oEntryStore at h
    split at h
    · cases h
    · split at h
      · simp only [Option.map_eq_some_iff] at h
        obtain ⟨_, _, rfl⟩ := h; rfl
      · cases h
    · cases h
  case call c =>
    obtain ⟨callee, args, tys⟩ := c
    cases callee <;> simp only [Bool.false_eq_true] at hp
    rename_i b
    cases b <;> simp only [Bool.false_eq_true] at hp <;> simp only [oBuiltin] at h
    case append =>
      split at h
      · split at h
        · cases h
        · rename_i el _ _ _ _
          revert h; generalize (!okT X.P el) = c; intro h
          cases c
          · simp only [cond_false, Option.bind_eq_some_iff] at h
            obtain ⟨_, _, h⟩ := h
            exact oAppend_pan (okv_eq h)
          · cases h
        · cases h
      · cases h
    case copy =>
      split at h
      · split at h
        · revert h; generalize Option.isSome _ = c; intro h
          cases c
          · cases h
          · have h := okv_eq h
            unfold oCopy at h
            split at h
            · revert h; generalize Nat.beq _ _ = c; intro h
              cases c
              · cases h
              · simp only [cond_true, Option.bind_eq_some_iff, Option.map_eq_some_iff, Prod.mk.injEq] at h
                obtain ⟨_, _, _, _, _, hw, _, rfl⟩ := h
                exact oWrite_pan hw
            · cases h
        · cases h
      · cases h
    case delete =>
      split at h
      · have h := (ok_eq h).1
        unfold oDelete at h
        split at h
        · split at h
          · revert h; generalize keyOk _ _ _ = c; intro h
            cases c
            · cases h
            · simp only [cond_true, Option.map_eq_some_iff] at h
              obtain ⟨r, _, h⟩ := h
              split at h <;> (subst h; rfl)
          · cases h
        · cases h
      · cases h
    case clear =>
      split at h
      · split at h
        · split at h
          · have h := (ok_eq h).1; cases h; rfl
          · cases h
        · cases h
      · cases h

end Go.Sac
