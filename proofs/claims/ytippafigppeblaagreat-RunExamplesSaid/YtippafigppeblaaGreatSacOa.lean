/- Ranges over maps, where the next entry is told. -/
import Derived.Test.YtippafigppeblaaGreatSacO
namespace Go.Sac
set_option linter.unusedVariables false
set_option linter.unusedSimpArgs false
open Go

section
variable {P : Program} {G : Gh} {S : St} {w : World}

theorem memB_mem {i : Nat} : ∀ {l : List Nat}, memB i l = l.contains i
  | [] => rfl
  | x :: xs => by
    simp only [memB, List.contains_cons, memB_mem]
    congr 1
    cases h : Nat.beq x i
    · symm; simp; rintro rfl; simp at h
    · have : x = i := by simpa using h
      subst this; simp

theorem RelE.filterB (p : Nat → Bool) : ∀ {es : List (AV × AV × Nat)} {l : List MapEntry}, RelE G es l → RelE G (es.filter fun e => p e.2.2) (l.filter fun m => p m.born)
  | [], _, k => by simp only [RelE] at k; subst k; rfl
  | e :: es, _, k => by
    obtain ⟨m, ms, rfl, k1, k2, k3, k4⟩ := k
    simp only [List.filter_cons, k3]
    have := RelE.filterB p k4
    split
    · exact ⟨m, _, rfl, k1, k2, k3, this⟩
    · exact this

theorem RelE.allB (p : Nat → Bool) : ∀ {es : List (AV × AV × Nat)} {l : List MapEntry}, RelE G es l → (es.all fun e => p e.2.2) = l.all fun m => p m.born
  | [], _, k => by simp only [RelE] at k; subst k; rfl
  | e :: es, _, k => by
    obtain ⟨m, ms, rfl, k1, k2, k3, k4⟩ := k
    simp only [List.all_cons, k3, RelE.allB p k4]

theorem RelE.findB (p : Nat → Bool) : ∀ {es : List (AV × AV × Nat)} {l : List MapEntry} {e : AV × AV × Nat}, RelE G es l → (es.find? fun e => p e.2.2) = some e → ∃ m, (l.find? fun m => p m.born) = some m ∧ Rel G e.1 m.key ∧ Rel G e.2.1 m.val
  | [], _, _, k, h => by cases h
  | x :: es, _, e, k, h => by
    obtain ⟨m, ms, rfl, k1, k2, k3, k4⟩ := k
    simp only [List.find?_cons, k3] at h ⊢
    cases hp : p x.2.2
    · simp only [hp] at h ⊢
      exact RelE.findB p k4 h
    · simp only [hp, Option.some.injEq] at h ⊢
      subst h
      exact ⟨m, rfl, k1, k2⟩

theorem RelE.nil_iff {es : List (AV × AV × Nat)} {l : List MapEntry} (k : RelE G es l) : es.isEmpty = l.isEmpty := by
  cases es with
  | nil => simp only [RelE] at k; subst k; rfl
  | cons e es => obtain ⟨m, ms, rfl, _⟩ := k; rfl

theorem range_ok (inv : Inv G S w) {t : TypeId} {x v : AV} {xv : Value} {S' : St} (h : oRange P t S x = some (v, S')) (rx : Rel G x xv) : AOk P G S w (do pure (.value (← Instr.range t xv))) v S' := by
  unfold oRange at h
  have fin : ∀ {mb : Option Nat} {m : Option Nat} {since last : Nat}, (Instr.range t xv).run P w = .ok (.pointer (some ⟨w.heap.size, 0, none⟩)) (w.alloc (.mapIter mb since #[] last)) → ((m = none ∧ mb = none) ∨ ∃ o c, m = some o ∧ mb = some c ∧ (G.obj o = .at c ∨ G.obj o = .dead)) →
      AOk P G S w (do pure (.value (← Instr.range t xv))) (.ptr S.objs.length 0) (S.push (.iter m since [] last)) := by
    intro mb m since last hr hm
    obtain ⟨h1, h2, h3⟩ := alloc_heap w (.mapIter mb since #[] last)
    have hmono : Mono G (G.newObj S.objs.length w.heap.size 0) := Mono.newObj (inv.beyond _ (Nat.le_refl _))
    obtain ⟨i1, i2⟩ := inv.push (w' := w.alloc (.mapIter mb since #[] last)) (.iter m since [] last) 0 h1 h2 ⟨mb, h3, by
      rcases hm with hm | ⟨o, c, q1, q2, q3⟩
      · exact .inl hm
      · refine .inr ⟨o, c, q1, q2, ?_⟩
        rcases q3 with q3 | q3
        · exact hmono.obj _ _ q3
        · exact .inr (hmono.dead _ q3)⟩ (by intro c e f hc; rw [h3] at hc; cases hc) rfl rfl rfl
    exact AOk.val hr (by simp [Rel, Gh.newObj]) i1 i2
  split at h
  · rename_i hu
    cases h
    simp only [Rel] at rx; subst rx
    exact fin (mb := none) (by simp [Instr.range, run_underlying hu]) (.inl ⟨rfl, rfl⟩)
  · rename_i hu
    split at h
    · rename_i es clock ho
      cases h
      obtain ⟨b, ms, rfl, hg, hb, re⟩ := map_rel inv rx ho
      exact fin (mb := some b) (by simp [Instr.range, run_underlying hu, getObj, Sem.run, hb]) (.inr ⟨_, b, rfl, rfl, .inl hg⟩)
    · cases h
  · cases h

/-- The iterator that a pointer leads to. -/
theorem iter_rel (inv : Inv G S w) {r : Nat} {m : Option Nat} {since last : Nat} {seen : List Nat} {iv : Value} (rel : Rel G (.ptr r 0) iv) (hr : S.objs[r]? = some (.iter m since seen last)) :
    ∃ b mb, iv = .pointer (some ⟨b, 0, none⟩) ∧ G.obj r = .at b ∧ w.heap[b]? = some (.mapIter mb since seen.toArray last) ∧ ((m = none ∧ mb = none) ∨ ∃ o c, m = some o ∧ mb = some c ∧ (G.obj o = .at c ∨ G.obj o = .dead)) := by
  simp only [Rel] at rel
  cases hg : G.obj r with
  | un => simp [hg] at rel
  | dead => rw [inv.dead r hg] at hr; cases hr
  | «at» b =>
    simp only [hg] at rel; subst rel
    obtain ⟨x, hx, k⟩ := inv.obj r b hg
    rw [hr] at hx; cases hx
    obtain ⟨mb, h1, h2⟩ := k
    exact ⟨b, mb, rfl, rfl, h1, h2⟩

theorem iter_map (inv : Inv G S w) {o : Nat} {mb : Option Nat} {es : List (AV × AV × Nat)} {clock : Nat} (h : (some o = none ∧ mb = none) ∨ ∃ o' c, some o = some o' ∧ mb = some c ∧ (G.obj o' = .at c ∨ G.obj o' = .dead)) (ho : S.objs[o]? = some (.map es clock)) :
    ∃ c ms, mb = some c ∧ G.obj o = .at c ∧ w.heap[c]? = some (.map ms clock) ∧ RelE G es ms.toList := by
  rcases h with ⟨q, _⟩ | ⟨o', c, q1, rfl, q3⟩
  · cases q
  · cases q1
    rcases q3 with q3 | q3
    · obtain ⟨x, hx, k⟩ := inv.obj o c q3
      rw [ho] at hx; cases hx
      obtain ⟨ms, h1, h2⟩ := k
      exact ⟨c, ms, rfl, q3, h1, h2⟩
    · rw [inv.dead o q3] at ho; cases ho

theorem next_ok (inv : Inv G S w) {it v : AV} {iv : Value} {S' : St} (h : oNext S it = some (v, S')) (ri : Rel G it iv) (ty : TypeId) : AOk P G S w (do pure (.value (← Instr.next iv false ty))) v S' := by
  unfold oNext at h
  split at h
  · rename_i r
    split at h
    · rename_i since seen last hr
      cases h
      obtain ⟨b, mb, rfl, hg, hb, hm⟩ := iter_rel inv ri hr
      have : mb = none := by
        rcases hm with hm | ⟨o, c, q, _⟩
        · exact hm.2
        · cases q
      subst this
      exact AOk.val (cv := .tuple #[.bool false]) (by simp [Instr.next, getObj, Sem.run, hb]) ⟨_, rfl, _, _, rfl, rfl, rfl⟩ inv (Step.refl G S w)
    · rename_i o since seen last hr
      split at h
      · rename_i es clock ho
        obtain ⟨b, mb, rfl, hg, hb, hm⟩ := iter_rel inv ri hr
        obtain ⟨c, ms, rfl, hgo, hc, re⟩ := iter_map inv hm ho
        have hcond : (!seen.isEmpty && !es.isEmpty && es.all (fun e => Nat.ble last e.2.2)) = (!seen.toArray.isEmpty && !ms.isEmpty && ms.all (fun m => decide (m.born ≥ last))) := by
          have e1 : seen.toArray.isEmpty = seen.isEmpty := by simp
          have e2 : ms.isEmpty = ms.toList.isEmpty := by simp
          have e3 : ms.all (fun m => decide (m.born ≥ last)) = ms.toList.all (fun m => decide (m.born ≥ last)) := by simp
          rw [e1, e2, e3, ← RelE.nil_iff re, ← RelE.allB (fun n => decide (n ≥ last)) re]
          congr 2
          funext e
          cases hq : Nat.ble last e.2.2
          · symm; simp; exact Nat.lt_of_not_le fun q => by rw [Nat.ble_eq_true_of_le q] at hq; cases hq
          · symm; simp; exact Nat.le_of_ble_eq_true hq
        have hfil : ∀ q : List (AV × AV × Nat), es.filter (fun e => !memB e.2.2 seen) = q → RelE G q (ms.toList.filter fun m => !seen.contains m.born) := by
          rintro q rfl
          have := RelE.filterB (fun n => !seen.contains n) re
          have e : (fun e : AV × AV × Nat => !memB e.2.2 seen) = fun e => !seen.contains e.2.2 := by funext e; rw [memB_mem]
          rw [e]; exact this
        generalize hcd : (!seen.isEmpty && !es.isEmpty && es.all (fun e => Nat.ble last e.2.2)) = cd at h hcond
        cases cd
        · simp only [cond_false] at h
          have hcond' := hcond.symm
          split at h
          · rename_i hf
            cases h
            have hl := hfil _ hf
            simp only [RelE] at hl
            have hleft : (ms.filter fun e => !seen.toArray.contains e.born) = #[] := by
              apply Array.ext'
              rw [Array.toList_filter]
              simpa using hl
            refine AOk.val (cv := .tuple #[.bool false]) ?_ ⟨_, rfl, _, _, rfl, rfl, rfl⟩ inv (Step.refl G S w)
            have g1 : (getObj b).run P w = .ok (.mapIter (some c) since seen.toArray last) w := by simp [getObj, Sem.run, hb]
            have g2 : (getObj c).run P w = .ok (.map ms clock) w := by simp [getObj, Sem.run, hc]
            simp only [Instr.next, Sem.run_bind, g1, g2, Result.andThen_ok, hcond', Bool.false_eq_true, if_false, hleft]
            simp [Question.forced]
          · rename_i e hf
            cases hs : Nat.blt e.2.2 since
            · rw [hs] at h; cases h
            · simp only [hs, cond_true, Option.some.injEq, Prod.mk.injEq] at h
              obtain ⟨rfl, rfl⟩ := h
              obtain ⟨m, ms', hl, k1, k2, k3, k4⟩ := hfil _ hf
              simp only [RelE] at k4; subst k4
              have hlt : m.born < since := by rw [k3]; simpa [Nat.blt_eq] using hs
              have hleft : (ms.filter fun e => !seen.toArray.contains e.born) = #[m] := by
                apply Array.ext'
                rw [Array.toList_filter]
                simpa using hl
              have hlb : b < w.heap.size := (Array.getElem?_eq_some_iff.1 hb).1
              have hset : (setObj b (.mapIter (some c) since (seen.toArray.push m.born) clock)).run P w = .ok () { w with heap := w.heap.setIfInBounds b (.mapIter (some c) since (seen.toArray.push m.born) clock) } := by simp [setObj, Sem.run, hb]
              obtain ⟨i1, i2⟩ := inv.turn (w' := { w with heap := w.heap.setIfInBounds b (.mapIter (some c) since (seen.toArray.push m.born) clock) }) hg (.iter (some o) since (seen ++ [e.2.2]) clock) (by simp)
                (fun d hd => by rw [Array.getElem?_setIfInBounds, if_neg (Ne.symm hd)])
                ⟨some c, by rw [Array.getElem?_setIfInBounds, if_pos rfl]; simp [hlb, k3], .inr ⟨o, c, rfl, rfl, .inl hgo⟩⟩
                (fun d e f hd => by rw [Array.getElem?_setIfInBounds, if_pos rfl] at hd; simp [hlb] at hd) rfl rfl rfl
              refine AOk.val (cv := .tuple #[.bool true, m.key, m.val]) ?_ ⟨_, rfl, _, _, rfl, rfl, _, _, rfl, k1, _, _, rfl, k2, rfl⟩ i1 i2
              have g1 : (getObj b).run P w = .ok (.mapIter (some c) since seen.toArray last) w := by simp [getObj, Sem.run, hb]
              have g2 : (getObj c).run P w = .ok (.map ms clock) w := by simp [getObj, Sem.run, hc]
              have hnl : ¬ since ≤ m.born := by omega
              have f1 : (#[m].filter fun e => decide (e.born < since)) = #[m] := by simp [hlt]
              have f2 : (#[m].filter fun e => decide (e.born ≥ since)) = #[] := by simp [hlt]
              simp only [Instr.next, Sem.run_bind, g1, g2, Result.andThen_ok, hcond', Bool.false_eq_true, if_false, hleft, f1, f2]
              have hset' := hset
              simp only [List.push_toArray] at hset'
              simp [Question.forced, hset']
          · cases h
        · cases h
      · cases h
    · cases h
  · cases h

theorem entry_ok (inv : Inv G S w) {it v : AV} {iv : Value} {S' : St} (h : oEntry S it = some (v, S')) (ri : Rel G it iv) : AOk P G S w (do pure (.value (← Instr.entry iv))) v S' := by
  unfold oEntry at h
  split at h
  · rename_i r
    split at h
    · rename_i o since seen last hr
      split at h
      · rename_i es clock ho
        cases hcl : Nat.beq clock last
        · rw [hcl] at h; cases h
        · simp only [hcl, cond_true, Option.bind_eq_some_iff, Option.map_eq_some_iff, Prod.mk.injEq] at h
          obtain ⟨stamp, hst, e, hfe, rfl, rfl⟩ := h
          obtain ⟨b, mb, rfl, hg, hb, hm⟩ := iter_rel inv ri hr
          obtain ⟨c, ms, rfl, hgo, hc, re⟩ := iter_map inv hm ho
          have hcl : clock = last := by simpa using hcl
          subst hcl
          have e1 : (fun e : AV × AV × Nat => Nat.beq e.2.2 stamp) = fun e => (fun n => n == stamp) e.2.2 := by funext e; rw [Bool.eq_iff_iff]; simp
          obtain ⟨m, q1, q2, q3⟩ := RelE.findB (fun n => n == stamp) re (e1 ▸ hfe)
          have hback : seen.toArray.back? = some stamp := by simpa using hst
          have q1 : ms.find? (fun m => m.born == stamp) = some m := by rw [← Array.find?_toList]; exact q1
          exact AOk.val (cv := .tuple #[m.key, m.val]) (by simp [Instr.entry, getObj, Sem.run, hb, hc, hback, q1]) ⟨_, rfl, _, _, rfl, q2, _, _, rfl, q3, rfl⟩ inv (Step.refl G S w)
      · cases h
    · cases h
  · cases h

end
end Go.Sac
