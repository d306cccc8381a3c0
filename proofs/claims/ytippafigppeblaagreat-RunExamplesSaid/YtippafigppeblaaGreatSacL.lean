/- Operations that turn the state: new objects, stores, maps. -/
import Derived.Test.YtippafigppeblaaGreatSacK
import Derived.Laws.CopyRow
namespace Go.Sac
set_option linter.unusedVariables false
set_option linter.unusedSimpArgs false
open Go

section
variable {P : Program} {G : Gh} {S : St} {w : World}

/-- An object that the state has already gets its block. -/
theorem Inv.place {w' : World} (h : Inv G S w) {o : Nat} (n : Nat) (hun : G.obj o = .un) {x : AObj} (hx : S.objs[o]? = some x) (hs : w'.heap.size = w.heap.size + 1)
    (hb : ∀ c, c < w.heap.size → w'.heap[c]? = w.heap[c]?) (k : ObjAt (G.newObj o w.heap.size n) w' x w.heap.size) (hr : ∀ c e f, w'.heap[w.heap.size]? = some (.cells c e f) → c.size = n) (ho : w'.os = w.os) (ht : w'.tape = w.tape) (hu : w'.output = w.output) :
    Inv (G.newObj o w.heap.size n) S w' ∧ Mono G (G.newObj o w.heap.size n) := by
  have hm : Mono G (G.newObj o w.heap.size n) := Mono.newObj hun
  have hlt : o < S.objs.length := (List.getElem?_eq_some_iff.1 hx).1
  have hn : ∀ i, i ≠ o → (G.newObj o w.heap.size n).obj i = G.obj i := fun i q => by simp only [Gh.newObj]; rw [if_neg q]
  have hq : (G.newObj o w.heap.size n).obj o = .at w.heap.size := by simp [Gh.newObj]
  refine ⟨⟨?_, ?_, ?_, ?_, ?_, ?_, ?_, ?_, h.tiptip, ?_, ?_, fun b l => by have := h.lentlt b l; omega⟩, hm⟩
  · intro i b e
    by_cases q : i = o
    · subst q; rw [hq] at e; cases e
      exact ⟨x, hx, k⟩
    · rw [hn i q] at e
      obtain ⟨y, q1, q2⟩ := h.obj i b e
      exact ⟨y, q1, (q2.mono hm).congr (hb b (h.lt e))⟩
  · intro i e
    by_cases q : i = o
    · subst q; rw [hq] at e; cases e
    · rw [hn i q] at e; exact h.dead i e
  · intro i i' b e e'
    by_cases q : i = o <;> by_cases q' : i' = o
    · omega
    · subst q; rw [hq] at e; cases e; rw [hn _ q'] at e'; have := h.lt e'; omega
    · subst q'; rw [hq] at e'; cases e'; rw [hn _ q] at e; have := h.lt e; omega
    · rw [hn _ q] at e; rw [hn _ q'] at e'; exact h.inj _ _ _ e e'
  · intro i l
    rw [hn i (by omega)]; exact h.beyond i l
  · intro b off v e
    rw [cell_congr (hb b (h.mem_lt e))]; exact h.mem b off v e
  · intro i b e off
    by_cases q : i = o
    · subst q; rw [hq] at e; cases e
      cases hh : G.mem w.heap.size off with
      | none => exact hh
      | some v => have := h.mem_lt hh; omega
    · rw [hn i q] at e; exact h.away i b e off
  · intro t g e
    obtain ⟨q1, q2⟩ := h.tip t g e
    refine ⟨q1, ⟨?_, q2.fin, q2.free, q2.lent⟩⟩
    obtain ⟨c, el, q3, q4⟩ := q2.row
    exact ⟨c, el, by rw [hb g.b (h.tip_lt e)]; exact q3, q4⟩
  · intro t g i e e'
    by_cases q : i = o
    · subst q; rw [hq] at e'; injection e' with e'; have := h.tip_lt (show G.tip t = some g from e); omega
    · rw [hn i q] at e'; exact h.tipobj t g i e e'
  · intro v r e
    obtain ⟨u, k⟩ := h.pan v r e
    exact ⟨u, Rel.mono hm _ _ k⟩
  · intro i b c el f e hc
    by_cases q : i = o
    · subst q; rw [hq] at e; cases e
      simp only [Gh.newObj, if_pos]; exact hr c el f hc
    · rw [hn i q] at e
      rw [hb b (h.lt e)] at hc
      simp only [Gh.newObj, if_neg q]; exact h.room _ _ _ _ _ e hc

/-- What an operation that turns the state comes to. -/
def AOk (P : Program) (G : Gh) (S : St) (w : World) (s : Sem Next) (v : AV) (S' : St) : Prop :=
  ∃ x G' w', s.run P w = .ok x w' ∧ ((∃ cv, x = .value cv ∧ Rel G' v cv) ∨ (x = .skip ∧ v = undefA)) ∧ Inv G' S' w' ∧ Step G S w G' S' w'

theorem Yields.aok {s : Sem Next} {v : AV} (h : Yields P G S w s v) : AOk P G S w s v S := by
  obtain ⟨cv, G', w', h1, h2, h3, h4⟩ := h
  exact ⟨_, G', w', h1, .inl ⟨cv, rfl, h2⟩, h3, h4⟩

theorem AOk.val {s : Sem Value} {cv : Value} {G' : Gh} {w' : World} {S' : St} {v : AV} (h1 : s.run P w = .ok cv w') (h2 : Rel G' v cv) (h3 : Inv G' S' w') (h4 : Step G S w G' S' w') :
    AOk P G S w (do pure (.value (← s))) v S' := ⟨.value cv, G', w', by simp [h1], .inl ⟨cv, rfl, h2⟩, h3, h4⟩

theorem AOk.unit {s : Sem Unit} {G' : Gh} {w' : World} {S' : St} (h1 : s.run P w = .ok () w') (h3 : Inv G' S' w') (h4 : Step G S w G' S' w') :
    AOk P G S w (do s; pure .skip) undefA S' := ⟨.skip, G', w', by simp [h1], .inr ⟨rfl, rfl⟩, h3, h4⟩

theorem alloc_heap (w : World) (x : Obj) : (w.alloc x).heap.size = w.heap.size + 1 ∧ (∀ c, c < w.heap.size → (w.alloc x).heap[c]? = w.heap[c]?) ∧ (w.alloc x).heap[w.heap.size]? = some x := by
  refine ⟨Array.size_push .., fun c hc => ?_, ?_⟩
  · show (w.heap.push x)[c]? = _
    rw [Array.getElem?_push, if_neg (Nat.ne_of_lt hc)]
  · show (w.heap.push x)[w.heap.size]? = _
    simp

/-- A new variable. -/
theorem new_ok (inv : Inv G S w) {cs : List AV} {vs rest : List Value} {t : TypeId} (r : RelL G cs vs) (hs : cs.all scal = true) :
    ∃ G', Inv G' (S.push (.cells cs)) (w.alloc (.cells (vs ++ rest).toArray t)) ∧ Step G S w G' (S.push (.cells cs)) (w.alloc (.cells (vs ++ rest).toArray t)) ∧ G'.obj S.objs.length = .at w.heap.size ∧ G'.room S.objs.length = (vs ++ rest).length := by
  obtain ⟨h1, h2, h3⟩ := alloc_heap w (.cells (vs ++ rest).toArray t)
  have hm : Mono G (G.newObj S.objs.length w.heap.size (vs ++ rest).length) := Mono.newObj (inv.beyond _ (Nat.le_refl _))
  obtain ⟨i1, i2⟩ := inv.push (w' := w.alloc (.cells (vs ++ rest).toArray t)) (.cells cs) (vs ++ rest).length h1 h2 ⟨vs, rest, t, h3, RelL.mono hm _ _ r, hs⟩
    (by intro c e f hc; rw [h3] at hc; cases hc; simp) rfl rfl rfl
  exact ⟨_, i1, i2, by simp [Gh.newObj], by simp [Gh.newObj]⟩

theorem alloc_ok (inv : Inv G S w) {t : TypeId} (h : okT P t = true) : AOk P G S w (do pure (.value (← Instr.alloc t true (.tuple #[])))) (oNew S (zeroT P t)).1 (oNew S (zeroT P t)).2 := by
  obtain ⟨i, z, hi, hz, _, _⟩ := okT_spec h
  obtain ⟨G', i1, i2, i3, _⟩ := new_ok (t := t) (rest := []) inv (zeroT_rel (G := G) hi hz) (okT_scal h)
  refine AOk.val (cv := .pointer (some ⟨w.heap.size, 0, none⟩)) ?_ (by simp [oNew, Rel, i3]) i1 i2
  simp [Instr.alloc, run_zeroValue' hi hz, newVar, newRow]

theorem cells_rel {v : AV} {cv : Value} {cs : List AV} (h : v.cells = some cs) (r : Rel G v cv) : RelL G cs cv.cells.toList ∧ cs.all scal = true := by
  cases v <;> simp only [AV.cells] at h
  case agg l =>
    cases hs : l.all scal
    · simp [hs] at h
    · simp [hs] at h; subst h
      obtain ⟨vs, rfl, r⟩ := r
      exact ⟨r, hs⟩
  all_goals
    simp only [scal, cond_true, cond_false, Option.some.injEq, reduceCtorEq] at h
  all_goals
    subst h
    refine ⟨?_, rfl⟩
    have := scal_one (v := cv) rfl r
    have e : cv.cells = #[cv] := by cases cv <;> simp [Value.oneCell'] at this <;> rfl
    rw [e]
    exact ⟨cv, [], rfl, r, rfl⟩

theorem box_ok (inv : Inv G S w) {t : TypeId} {x : AV} {xv : Value} {cs : List AV} (h : x.cells = some cs) (r : Rel G x xv) :
    AOk P G S w (do pure (.value (← Instr.box t xv))) (oNew S cs).1 (oNew S cs).2 := by
  obtain ⟨r, hs⟩ := cells_rel h r
  obtain ⟨G', i1, i2, i3, _⟩ := new_ok (t := t) (rest := []) inv r hs
  refine AOk.val (cv := .pointer (some ⟨w.heap.size, 0, none⟩)) ?_ (by simp [oNew, Rel, i3]) i1 i2
  simp [Instr.box, newVar, newRow]

theorem splice_rel {cs cs' : List AV} {vs vs' : List Value} (r : RelL G cs vs) (r' : RelL G cs' vs') (off : Nat) : RelL G (splice cs off cs') (vs.take off ++ vs' ++ vs.drop (off + vs'.length)) := by
  unfold splice
  rw [r'.length]
  exact ((r.take off).append r').append (r.drop _)

/-- Cells written into an object. -/
theorem write_ok (inv : Inv G S w) {o off b : Nat} {cs : List AV} {vs : List Value} {S' : St} (h : oWrite S o off cs = some S') (hg : G.obj o = .at b) (r : RelL G cs vs) (hs : cs.all scal = true) :
    ∃ w', (storeCells ⟨b, off, none⟩ vs).run P w = .ok () w' ∧ Inv G S' w' ∧ Step G S w G S' w' := by
  unfold oWrite at h
  split at h
  · rename_i old ho
    cases hl : Nat.ble (off + cs.length) old.length
    · simp [hl] at h
    · simp [hl] at h; subst h
      have hl : off + cs.length ≤ old.length := by simpa using hl
      obtain ⟨x, hx, k⟩ := inv.obj o b hg
      rw [ho] at hx; cases hx
      obtain ⟨cur, rest, e, hb, rl, sc⟩ := k
      have hlen := rl.length
      have hlen' := r.length
      have hbs : b < w.heap.size := (Array.getElem?_eq_some_iff.1 hb).1
      have hone := scalL_one hs r
      have hrun := run_storeCells_at (P := P) b off e vs 0 (cur ++ rest).toArray w hb (by simp; omega) hone
      refine ⟨_, hrun, ?_⟩
      have hnew : ∃ X, w.heap[b]? = some (.cells (cur ++ rest).toArray e (0, 0)) ∧ X = ((cur ++ rest).toArray.toList.take (off + 0) ++ vs ++ (cur ++ rest).toArray.toList.drop (off + 0 + vs.length)).toArray := ⟨_, hb, rfl⟩
      have hcells : ((cur ++ rest).toArray.toList.take (off + 0) ++ vs ++ (cur ++ rest).toArray.toList.drop (off + 0 + vs.length)) = (cur.take off ++ vs ++ cur.drop (off + vs.length)) ++ rest := by
        simp only [Nat.add_zero]
        rw [List.take_append_of_le_length (by omega), List.drop_append_of_le_length (by omega)]
        simp
      rw [hcells]
      refine inv.turn hg _ (by simp [World.setRow]) ?_ ⟨_, rest, e, ?_, splice_rel rl r off, ?_⟩ ?_ rfl rfl rfl
      · intro c hc
        simp only [World.setRow]
        rw [Array.getElem?_modify, if_neg (Ne.symm hc)]
      · simp only [World.setRow]
        rw [Array.getElem?_modify, if_pos rfl, hb]
        rfl
      rotate_left
      · intro c el f hc
        refine ⟨_, _, _, hb, ?_⟩
        simp only [World.setRow] at hc
        rw [Array.getElem?_modify, if_pos rfl, hb] at hc
        cases hc
        simp; omega
      · simp only [splice, List.all_append, Bool.and_eq_true]
        rw [List.all_eq_true] at sc
        refine ⟨⟨?_, hs⟩, ?_⟩
        · rw [List.all_eq_true]; exact fun x hx => sc x (List.mem_of_mem_take hx)
        · rw [List.all_eq_true]; exact fun x hx => sc x (List.mem_of_mem_drop hx)
  · cases h

theorem store_ok (inv : Inv G S w) {t : TypeId} {a v : AV} {va vv : Value} {S' : St} (hi : (P.info? t).isSome = true) (h : oStore (sizeT P t) S a v = some S') (ra : Rel G a va) (rv : Rel G v vv) :
    AOk P G S w (do Instr.storeAt t va vv; pure .skip) undefA S' := by
  obtain ⟨inf, hi⟩ := isSome_get hi
  unfold oStore at h
  split at h
  · rename_i o off cs hc
    cases hb : Nat.beq cs.length (sizeT P t)
    · simp [hb] at h
    · simp only [hb, cond_true] at h
      have hb : cs.length = P.cellsOf t := by simpa [sizeT] using hb
      obtain ⟨rv, hs⟩ := cells_rel hc rv
      have hlen := rv.length
      simp only [Rel] at ra
      cases hg : G.obj o with
      | un => simp [hg] at ra
      | dead =>
        unfold oWrite at h
        rw [inv.dead o hg] at h; cases h
      | «at» b =>
        simp only [hg] at ra; subst ra
        obtain ⟨w', h1, h2, h3⟩ := write_ok (P := P) inv h hg rv hs
        refine AOk.unit ?_ h2 h3
        have : ¬ vv.cells.size ≠ P.cellsOf t := by simp at hlen; omega
        simp only [Instr.storeAt, Instr.sureAddr, Sem.run_bind, Sem.run_pure, Result.andThen_ok, storeVar, run_sizeOf w hi]
        rw [if_neg this]
        exact h1
  · cases h

end
end Go.Sac
