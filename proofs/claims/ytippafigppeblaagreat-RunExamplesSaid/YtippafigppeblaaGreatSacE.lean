/- Operations that leave the state alone. -/
import Derived.Test.YtippafigppeblaaGreatSacD
import Derived.Laws.Cells
import Derived.Laws.CopyRow
import Derived.Laws.Build
import Derived.Laws.Slices
namespace Go.Sac
set_option linter.unusedVariables false
set_option linter.unusedSimpArgs false
open Go

theorem ofConst_rel (G : Gh) (v : Value) : Rel G (ofConst v) v := by
  unfold ofConst
  split <;> simp only [Rel]
  case h_5 => exact ⟨none, 0, rfl, Nat.le_refl _, ⟨rfl, rfl⟩, .inl ⟨trivial, by simp⟩⟩

def EvOk (G : Gh) (e : Env) (ρ : Operand → Value) : Prop := ∀ x, Rel G (e.ev x) (ρ x)

theorem ev_rel {G : Gh} {e : Env} {a : Act} (h : RelT G e.t a.tmps) : EvOk G e a.eval := by
  intro x
  cases x with
  | tmp t => exact h t
  | const v => exact ofConst_rel G v
  | global g => exact trivial
  | func f => exact ⟨#[], #[], rfl, rfl, rfl⟩

theorem evs_rel {G : Gh} {e : Env} {ρ : Operand → Value} (h : EvOk G e ρ) : ∀ (l : List Operand), RelL G (l.map e.ev) (l.map ρ)
  | [] => rfl
  | x :: l => ⟨_, _, rfl, h x, evs_rel h l⟩

theorem scal_one {G : Gh} {a : AV} {v : Value} (s : scal a = true) (r : Rel G a v) : v.oneCell' = true := by
  cases a <;> simp [scal] at s <;> simp only [Rel] at r
  case ptr => split at r <;> first | (subst r; rfl) | (obtain ⟨_, rfl, _⟩ := r; rfl) | exact r.elim
  case eptr => obtain ⟨_, _, rfl, _⟩ := r; rfl
  case lst => obtain ⟨_, _, rfl, _⟩ := r; rfl
  case sl => split at r <;> first | (obtain ⟨_, rfl, _⟩ := r; rfl) | (obtain ⟨_, _, rfl, _⟩ := r; rfl) | exact r.elim
  case map => split at r <;> first | (subst r; rfl) | (obtain ⟨_, rfl⟩ := r; rfl) | exact r.elim
  case func => obtain ⟨_, _, rfl, _⟩ := r; rfl
  case yld => split at r <;> first | (subst r; rfl) | (obtain ⟨_, rfl⟩ := r; rfl) | exact r.elim
  case iface => obtain ⟨_, rfl, _⟩ := r; rfl
  all_goals (subst r; rfl)

theorem scalL_one {G : Gh} : ∀ {as : List AV} {vs : List Value}, as.all scal = true → RelL G as vs → ∀ v ∈ vs, v.oneCell' = true
  | [], _, _, r, v, hv => by simp only [RelL] at r; subst r; cases hv
  | a :: as, _, s, r, v, hv => by
    obtain ⟨u, us, rfl, r1, r2⟩ := r
    simp only [List.all_cons, Bool.and_eq_true] at s
    rcases List.mem_cons.1 hv with rfl | hv
    · exact scal_one s.1 r1
    · exact scalL_one s.2 r2 v hv

theorem add_lit (b o n : Nat) : Addr.add ⟨b, o, none⟩ n = ⟨b, o + n, none⟩ := by
  unfold Addr.add; split <;> simp_all

theorem cut_eq {l : List AV} {off n : Nat} {cs : List AV} (h : cut l off n = some cs) : off + n ≤ l.length ∧ cs = (l.drop off).take n := by
  unfold cut at h
  cases hb : Nat.ble (off + n) l.length <;> simp [hb] at h
  exact ⟨by simpa using hb, h.symm⟩

theorem CellsAt.get {G : Gh} : ∀ {cs : List AV} {b off : Nat}, CellsAt G cs b off → ∀ {j : Nat} {c : AV}, cs[j]? = some c → ∃ v, G.mem b (off + j) = some v ∧ Rel G c v ∧ scal c = true
  | [], _, _, _, j, c, h => by simp at h
  | c :: cs, b, off, k, 0, _, h => by
    simp at h; subst h
    simp only [CellsAt] at k
    exact k.1
  | c :: cs, b, off, k, j + 1, _, h => by
    simp only [CellsAt] at k
    obtain ⟨v, h1, h2⟩ := k.2.get (j := j) (by simpa using h)
    exact ⟨v, by rw [show off + (j + 1) = off + 1 + j by omega]; exact h1, h2⟩

theorem CellsAt.rel {G : Gh} {S : St} {w : World} (inv : Inv G S w) : ∀ {cs : List AV} {b off : Nat}, CellsAt G cs b off →
    ∃ vs : List Value, RelL G cs vs ∧ (∀ j u, vs[j]? = some u → w.cell? ⟨b, off + j, none⟩ = some u) ∧ cs.all scal = true
  | [], b, off, _ => ⟨[], rfl, by simp, rfl⟩
  | c :: cs, b, off, k => by
    simp only [CellsAt] at k
    obtain ⟨⟨v, h1, h2, h3⟩, k⟩ := k
    obtain ⟨vs, q1, q2, q3⟩ := CellsAt.rel inv k
    refine ⟨v :: vs, ⟨v, vs, rfl, h2, q1⟩, ?_, by simp [h3, q3]⟩
    intro j u hu
    cases j with
    | zero => simp at hu; subst hu; exact inv.mem _ _ _ h1
    | succ j => rw [show off + (j + 1) = off + 1 + j by omega]; exact q2 j u (by simpa using hu)

theorem CellsAt.sub {G : Gh} : ∀ {cs : List AV} {b off : Nat} (k n : Nat), CellsAt G cs b off → CellsAt G ((cs.drop k).take n) b (off + k)
  | [], b, off, k, n, _ => by simp [CellsAt]
  | c :: cs, b, off, 0, 0, h => by simp [CellsAt]
  | c :: cs, b, off, 0, n + 1, h => by
    simp only [CellsAt] at h
    have := h.2.sub 0 n
    simp only [List.drop_zero, Nat.add_zero] at this
    simp only [List.drop_zero, List.take_succ_cons, CellsAt, Nat.add_zero]
    exact ⟨h.1, this⟩
  | c :: cs, b, off, k + 1, n, h => by
    simp only [CellsAt] at h
    have := h.2.sub k n
    rw [show off + (k + 1) = off + 1 + k by omega]
    simpa using this

/-- What a place holds. -/
theorem read_rel {G : Gh} {S : St} {w : World} (inv : Inv G S w) {a : AV} {v : Value} {n : Nat} {cs : List AV} (r : Rel G a v) (h : readAt S a n = some cs) :
    ∃ b off vs, v = .pointer (some ⟨b, off, none⟩) ∧ RelL G cs vs ∧ vs.length = n ∧ (∀ j u, vs[j]? = some u → w.cell? ⟨b, off + j, none⟩ = some u) ∧ cs.all scal = true := by
  cases a <;> simp only [readAt] at h <;> try (cases h; done)
  case ptr o off =>
    split at h
    · rename_i old ho
      obtain ⟨hl, rfl⟩ := cut_eq h
      simp only [Rel] at r
      cases hg : G.obj o with
      | un => simp [hg] at r
      | dead => rw [inv.dead o hg] at ho; cases ho
      | «at» b =>
        simp only [hg] at r; subst r
        obtain ⟨x, hx, k⟩ := inv.obj o b hg
        rw [ho] at hx; cases hx
        obtain ⟨c, rest, e, hb, rl, sc⟩ := k
        refine ⟨b, off, (c.drop off).take n, rfl, (rl.drop off).take n, ?_, ?_, ?_⟩
        · have := rl.length
          simp at this ⊢; omega
        · intro j u hu
          simp only [World.cell?, hb]
          simp only [List.getElem?_take, List.getElem?_drop] at hu
          split at hu
          · have hlt := (List.getElem?_eq_some_iff.1 hu).1
            simp only [Option.isSome_none, Bool.false_eq_true, if_false, List.getElem?_toArray]
            rw [List.getElem?_append_left hlt]; exact hu
          · cases hu
        · rw [List.all_eq_true] at sc ⊢
          exact fun x hx => sc x (List.mem_of_mem_drop (List.mem_of_mem_take hx))
    · cases h
  case eptr row off =>
    obtain ⟨hl, rfl⟩ := cut_eq h
    simp only [Rel] at r
    obtain ⟨b, base, rfl, k⟩ := r
    obtain ⟨vs, q1, q2, q3⟩ := (k.sub off n).rel inv
    refine ⟨b, base + off, vs, rfl, q1, ?_, q2, q3⟩
    rw [← q1.length]; simp; omega

def VOk (P : Program) (G : Gh) (S : St) (w : World) (s : Sem Value) (v : AV) : Prop :=
  ∃ cv G' w', s.run P w = .ok cv w' ∧ Rel G' v cv ∧ Inv G' S w' ∧ Step G S w G' S w'

theorem VOk.still {P : Program} {G : Gh} {S : St} {w : World} {s : Sem Value} {v : AV} {cv : Value} (inv : Inv G S w) (h : s.run P w = .ok cv w) (r : Rel G v cv) : VOk P G S w s v :=
  ⟨cv, G, w, h, r, inv, Step.refl G S w⟩

theorem isSome_get {α : Type} {o : Option α} (h : o.isSome = true) : ∃ x, o = some x := by
  cases o with
  | none => cases h
  | some x => exact ⟨x, rfl⟩

section
variable {P : Program} {G : Gh} {S : St} {w : World} (inv : Inv G S w)

theorem pack_rel {t : TypeId} {d : TypeDesc} (hu : P.underlying t = some d) {cs : List AV} {vs : List Value} {v : AV} (h : pack (isAggT P t) cs = some v) (r : RelL G cs vs) :
    Rel G v (mkV P t vs) ∧ (isAggT P t = false → ∃ u, vs = [u]) := by
  cases hg : isAggT P t
  · rw [hg] at h
    simp only [pack] at h
    split at h
    · simp at h; subst h
      obtain ⟨u, us, rfl, r1, r2⟩ := r
      simp only [RelL] at r2; subst r2
      exact ⟨by simpa [mkV, hg] using r1, fun _ => ⟨u, rfl⟩⟩
    · cases h
  · rw [hg] at h
    simp [pack] at h; subst h
    exact ⟨by simp only [mkV, hg, if_true, Rel]; exact ⟨_, rfl, by simpa using r⟩, fun q => by cases q⟩

theorem run_loadVar' {t : TypeId} {d : TypeDesc} (hu : P.underlying t = some d) {b off : Nat} {vs : List Value} (hl : vs.length = P.cellsOf t) (h1 : isAggT P t = false → ∃ u, vs = [u])
    (hc : ∀ j u, vs[j]? = some u → w.cell? ⟨b, off + j, none⟩ = some u) : (loadVar t ⟨b, off, none⟩).run P w = .ok (mkV P t vs) w := by
  simp only [loadVar, Sem.run_bind, run_isAgg' w hu, Result.andThen_ok, mkV]
  cases hg : isAggT P t
  · obtain ⟨u, rfl⟩ := h1 hg
    have := hc 0 u rfl
    simp at this
    simp [this]
  · have := run_loadCells_list (P := P) w ⟨b, off, none⟩ vs (fun j u hj => by rw [add_lit]; exact hc j u hj)
    simp [run_sizeOf' w hu, ← hl, this]

theorem load_ok (inv : Inv G S w) {t : TypeId} {a v : AV} {cv : Value} (ht : (P.underlying t).isSome = true) (h : oLoad (sizeT P t) (isAggT P t) S a = some v) (r : Rel G a cv) :
    ∃ u, (Instr.loadAt t cv).run P w = .ok u w ∧ Rel G v u := by
  obtain ⟨d, hu⟩ := isSome_get ht
  simp only [oLoad, Option.bind_eq_some_iff] at h
  obtain ⟨cs, h1, h2⟩ := h
  obtain ⟨b, off, vs, rfl, rl, hl, hc, _⟩ := read_rel inv r h1
  obtain ⟨p1, p2⟩ := pack_rel hu h2 rl
  exact ⟨_, by simp [Instr.loadAt, Instr.sureAddr, run_loadVar' hu hl p2 hc], p1⟩

end

theorem splice_arr (cells : List Value) : ∀ (vs : List Value) (off k : Nat) (cur : Array Value), off + k + vs.length ≤ cur.size →
    ((vs.zipIdx k).foldl (fun (cs : Array Value) (p : Value × Nat) => cs.setIfInBounds (off + p.2) p.1) cur).toList = cur.toList.take (off + k) ++ vs ++ cur.toList.drop (off + k + vs.length)
  | [], off, k, cur, h => by simp
  | v :: vs, off, k, cur, h => by
    simp only [List.zipIdx_cons, List.foldl_cons]
    simp only [List.length_cons] at h
    rw [splice_arr cells vs off (k + 1) _ (by simp; omega)]
    have hlt : off + k < cur.toList.length := by simp; omega
    simp only [Array.toList_setIfInBounds, List.length_cons]
    rw [show off + (k + 1) = off + k + 1 by omega]
    rw [List.take_set, List.drop_set_of_lt (by omega)]
    rw [show (List.take (off + k + 1) cur.toList).set (off + k) v = List.take (off + k) cur.toList ++ [v] by
      rw [List.take_succ_eq_append_getElem hlt]
      rw [List.set_append_right _ _ (by simp; omega)]
      have : min (off + k) cur.size = off + k := Nat.min_eq_left (by simp at hlt; omega)
      simp [this]]
    simp
    congr 1
    omega

theorem fill_rel {G : Gh} {place : Nat → Option (Nat × Nat)} : ∀ {parts : List (Nat × AV)} {vparts : List (Nat × Value)} {cells : List AV} {vs : Array Value} {out : List AV},
    fillA place cells parts = some out → RelL G cells vs.toList → (parts.map (·.1) = vparts.map (·.1)) → RelL G (parts.map (·.2)) (vparts.map (·.2)) →
    ∃ us, Instr.fill place vs vparts = some us ∧ RelL G out us.toList
  | [], [], cells, vs, out, h, r, _, _ => by simp [fillA] at h; subst h; exact ⟨vs, rfl, r⟩
  | [], _ :: _, _, _, _, _, _, h, _ => by simp at h
  | _ :: _, [], _, _, _, _, _, h, _ => by simp at h
  | (i, a) :: ps, (i', v) :: vps, cells, vs, out, h, r, hi, hr => by
    simp only [List.map_cons, List.cons.injEq] at hi
    obtain ⟨rfl, hi⟩ := hi
    simp only [List.map_cons] at hr
    obtain ⟨_, _, e, r1, r2⟩ := hr
    simp only [List.cons.injEq] at e
    obtain ⟨rfl, rfl⟩ := e
    simp only [fillA] at h
    split at h
    · rename_i off size cs hp hc
      cases hb : (Nat.beq cs.length size && Nat.ble (off + size) cells.length)
      · simp [hb] at h
      · simp only [hb, cond_true] at h
        simp only [Bool.and_eq_true] at hb
        have b1 : cs.length = size := by simpa using hb.1
        have b2 : off + size ≤ cells.length := by simpa using hb.2
        have hcells : RelL G cs v.cells.toList := by
          unfold AV.cells at hc
          split at hc
          · rename_i as
            cases hs : as.all scal <;> simp [hs] at hc
            subst hc
            simp only [Rel] at r1
            obtain ⟨us, rfl, r1⟩ := r1
            exact r1
          · rename_i hne
            cases hs : scal a <;> simp [hs] at hc
            subst hc
            have h1 := scal_one hs r1
            have : v.cells = #[v] := by cases v <;> first | rfl | (simp [Value.oneCell'] at h1)
            rw [this]
            exact ⟨v, [], rfl, r1, rfl⟩
        have hl := r.length
        have hl2 := hcells.length
        simp only [Array.length_toList] at hl hl2
        have hnew : RelL G (splice cells off cs) (v.cells.zipIdx.foldl (fun (cs : Array Value) (p : Value × Nat) => cs.setIfInBounds (off + p.2) p.1) vs).toList := by
          have := splice_arr [] v.cells.toList off 0 vs (by simp; omega)
          rw [← Array.foldl_toList, Array.toList_zipIdx, this]
          simp only [splice, Nat.add_zero]
          rw [show v.cells.toList.length = cs.length by rw [hcells.length]]
          exact ((r.take off).append hcells).append (r.drop _)
        obtain ⟨us, q1, q2⟩ := fill_rel h hnew hi r2
        refine ⟨us, ?_, q2⟩
        simp only [Instr.fill, hp]
        rw [if_neg]
        · exact q1
        · simp; omega
    · cases h

end Go.Sac
