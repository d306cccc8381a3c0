/- Operations that turn the state: append, literals and made slices. -/
import Derived.Test.YtippafigppeblaaGreatSacN
import Derived.Laws.BitsLemmas
import Derived.Laws.MakeOwn
namespace Go.Sac
set_option linter.unusedVariables false
set_option linter.unusedSimpArgs false
open Go

section
variable {P : Program} {G : Gh} {S : St} {w : World}

/-- An object's row goes over to a new object, with more cells. -/
theorem Inv.regrow (inv : Inv G S w) {w' : World} {o b : Nat} {vs X rest rest' : List Value} {e : TypeId} {cs : List AV} (hg : G.obj o = .at b) (hb : w.heap[b]? = some (.cells (vs ++ rest).toArray e (0, 0)))
    (hw : w' = w.setRow b ((vs ++ X) ++ rest').toArray) (hl : ((vs ++ X) ++ rest').length = (vs ++ rest).length) (r : RelL G cs (vs ++ X)) (hs : cs.all scal = true) :
    ∃ G', Inv G' ((S.setObj o .dead).push (.cells cs)) w' ∧ Step G S w G' ((S.setObj o .dead).push (.cells cs)) w' ∧ G'.obj S.objs.length = .at b ∧ G'.room S.objs.length = (vs ++ rest).length := by
  have hlt := inv.lt hg
  have ho : o < S.objs.length := by
    rcases Nat.lt_or_ge o S.objs.length with l | l
    · exact l
    · rw [inv.beyond o l] at hg; cases hg
  have hrow : w'.heap[b]? = some (.cells ((vs ++ X) ++ rest').toArray e (0, 0)) := by
    rw [hw]; simp only [World.setRow]; rw [Array.getElem?_modify, if_pos rfl, hb]; rfl
  have hoth : ∀ c, c ≠ b → w'.heap[c]? = w.heap[c]? := fun c hc => by
    rw [hw]; simp only [World.setRow]; rw [Array.getElem?_modify, if_neg (Ne.symm hc)]
  have hsz : w'.heap.size = w.heap.size := by rw [hw]; simp [World.setRow]
  let N := S.objs.length
  let G' : Gh := { G with obj := fun i => if i = o then .dead else if i = N then .at b else G.obj i, room := fun i => if i = N then (vs ++ rest).length else G.room i }
  have hNo : N ≠ o := by simp only [N]; omega
  have hun : G.obj N = .un := inv.beyond _ (Nat.le_refl _)
  have gN : G'.obj N = .at b := by simp [G', hNo]
  have go : G'.obj o = .dead := by simp [G']
  have gn : ∀ i, i ≠ o → i ≠ N → G'.obj i = G.obj i := fun i h1 h2 => by simp only [G']; rw [if_neg h1, if_neg h2]
  have hm : Mono G G' := by
    refine ⟨fun i c h => ?_, fun i h => ?_, fun t g h => ⟨g, h, Nat.le_refl _, fun _ => rfl⟩, fun _ _ _ h => h, fun i c h => ?_, fun i h => ?_, fun _ => rfl⟩
    · by_cases q : i = o
      · subst q; exact .inr go
      · by_cases q' : i = N
        · subst q'; rw [hun] at h; cases h
        · rw [gn i q q']; exact .inl h
    · by_cases q : i = o
      · subst q; exact go
      · by_cases q' : i = N
        · subst q'; rw [hun] at h; cases h
        · rw [gn i q q']; exact h
    · simp only [G']; rw [if_neg]; intro q; subst q; rw [hun] at h; cases h
    · simp only [G']; rw [if_neg]; intro q; subst q; rw [hun] at h; cases h
  have atne : ∀ i c, i ≠ o → i ≠ N → G'.obj i = .at c → c ≠ b := fun i c h1 h2 h q => by
    rw [gn i h1 h2] at h; subst q; exact h1 (inv.inj _ _ _ h hg)
  refine ⟨G', ⟨?_, ?_, ?_, ?_, ?_, ?_, ?_, ?_, inv.tiptip, ?_, ?_, fun b l => by have := inv.lentlt b l; omega⟩, { hm with un := ?_, len := ?_, heap := ?_, size := by omega, old := fun _ _ _ _ => rfl, own := ?_, os := by rw [hw]; rfl, tape := by rw [hw]; rfl, output := by rw [hw]; rfl }, gN, by simp [G', N]⟩
  · intro i c h
    by_cases q : i = o
    · subst q; rw [go] at h; cases h
    · by_cases q' : i = N
      · subst q'; rw [gN] at h; cases h
        refine ⟨.cells cs, by simp [St.push, St.setObj, N], ⟨_, rest', e, hrow, RelL.mono hm _ _ r, hs⟩⟩
      · have hc := atne i c q q' h
        rw [gn i q q'] at h
        obtain ⟨y, q1, q2⟩ := inv.obj i c h
        refine ⟨y, ?_, (q2.mono hm).congr (hoth c hc)⟩
        have := (List.getElem?_eq_some_iff.1 q1).1
        simp only [St.push, St.setObj]
        rw [List.getElem?_append_left (by simpa using this), List.getElem?_set_ne (Ne.symm q)]; exact q1
  · intro i h
    by_cases q : i = o
    · subst q
      simp only [St.push, St.setObj]
      rw [List.getElem?_append_left (by simpa using ho)]; simp [ho]
    · by_cases q' : i = N
      · subst q'; rw [gN] at h; cases h
      · rw [gn i q q'] at h
        have := inv.dead i h
        have hl := (List.getElem?_eq_some_iff.1 this).1
        simp only [St.push, St.setObj]
        rw [List.getElem?_append_left (by simpa using hl), List.getElem?_set_ne (Ne.symm q)]; exact this
  · intro i j c h h'
    by_cases q : i = o
    · subst q; rw [go] at h; cases h
    · by_cases p : j = o
      · subst p; rw [go] at h'; cases h'
      · by_cases q' : i = N <;> by_cases p' : j = N
        · omega
        · subst q'; rw [gN] at h; cases h; exact (atne j b p p' h' rfl).elim
        · subst p'; rw [gN] at h'; cases h'; exact (atne i b q q' h rfl).elim
        · rw [gn i q q'] at h; rw [gn j p p'] at h'; exact inv.inj _ _ _ h h'
  · intro i l
    simp [St.push, St.setObj] at l
    rw [gn i (by omega) (by simp only [N]; omega)]
    exact inv.beyond i (by omega)
  · intro c off v h
    rw [cell_congr (hoth c fun q => ?_)]
    · exact inv.mem c off v h
    · subst q; rw [inv.away o c hg off] at h; cases h
  · intro i c h off
    by_cases q : i = o
    · subst q; rw [go] at h; cases h
    · by_cases q' : i = N
      · subst q'; rw [gN] at h; cases h; exact inv.away o b hg off
      · rw [gn i q q'] at h; exact inv.away i c h off
  · intro t g h
    obtain ⟨q1, q2⟩ := inv.tip t g h
    refine ⟨q1, ⟨?_, q2.fin, q2.free, q2.lent⟩⟩
    obtain ⟨c, el, q3, q4⟩ := q2.row
    exact ⟨c, el, by rw [hoth g.b fun q => inv.tipobj t g o h (by rw [q]; exact hg)]; exact q3, q4⟩
  · intro t g i h h'
    by_cases q : i = o
    · subst q; rw [go] at h'; cases h'
    · by_cases q' : i = N
      · subst q'; rw [gN] at h'; injection h' with h'
        exact inv.tipobj t g o h (by rw [← h']; exact hg)
      · rw [gn i q q'] at h'; exact inv.tipobj t g i h h'
  · intro v r h
    obtain ⟨u, k⟩ := inv.pan v r h
    exact ⟨u, Rel.mono hm _ _ k⟩
  · intro i c cc el f h hc
    by_cases q : i = o
    · subst q; rw [go] at h; cases h
    · by_cases q' : i = N
      · subst q'; rw [gN] at h; cases h
        rw [hrow] at hc; cases hc
        simp only [G', N, if_pos]
        rw [← hl]; simp
      · have hc' := atne i c q q' h
        rw [gn i q q'] at h
        rw [hoth c hc'] at hc
        simp only [G']; rw [if_neg q']
        exact inv.room _ _ _ _ _ h hc
  · intro i l h
    have q : i ≠ o := fun q => by subst q; rw [hg] at h; cases h
    have q' : i ≠ N := by simp only [N]; omega
    refine ⟨by rw [gn i q q']; exact h, ?_⟩
    simp only [St.push, St.setObj]
    rw [List.getElem?_append_left (by simpa using l), List.getElem?_set_ne (Ne.symm q)]
  · simp [St.push, St.setObj]
  · intro c l n
    exact hoth c fun q => n (.inl ⟨o, by rw [q]; exact hg⟩)
  · intro c l h
    rcases h with ⟨i, h⟩ | ⟨t, g, h, q⟩
    · by_cases q : i = o
      · subst q; rw [go] at h; cases h
      · by_cases q' : i = N
        · subst q'; rw [gN] at h; injection h with h; exact .inl ⟨o, by rw [← h]; exact hg⟩
        · rw [gn i q q'] at h; exact .inl ⟨i, h⟩
    · exact .inr ⟨t, g, h, q⟩

/-- An object goes. -/
theorem Inv.kill (inv : Inv G S w) {o b : Nat} (hg : G.obj o = .at b) :
    ∃ G', Inv G' (S.setObj o .dead) w ∧ Step G S w G' (S.setObj o .dead) w := by
  have ho : o < S.objs.length := by
    rcases Nat.lt_or_ge o S.objs.length with l | l
    · exact l
    · rw [inv.beyond o l] at hg; cases hg
  let G' : Gh := { G with obj := fun i => if i = o then .dead else G.obj i }
  have go : G'.obj o = .dead := by simp [G']
  have gn : ∀ i, i ≠ o → G'.obj i = G.obj i := fun i h1 => by simp only [G']; rw [if_neg h1]
  have hm : Mono G G' := by
    refine ⟨fun i c h => ?_, fun i h => ?_, fun t g h => ⟨g, h, Nat.le_refl _, fun _ => rfl⟩, fun _ _ _ h => h, fun _ _ _ => rfl, fun _ _ => rfl, fun _ => rfl⟩
    · by_cases q : i = o
      · subst q; exact .inr go
      · rw [gn i q]; exact .inl h
    · by_cases q : i = o
      · subst q; exact go
      · rw [gn i q]; exact h
  have gat : ∀ i c, G'.obj i = .at c → i ≠ o ∧ G.obj i = .at c := fun i c h => by
    by_cases q : i = o
    · subst q; rw [go] at h; cases h
    · exact ⟨q, by rw [← gn i q]; exact h⟩
  refine ⟨G', ⟨?_, ?_, ?_, ?_, inv.mem, ?_, ?_, ?_, inv.tiptip, ?_, ?_, inv.lentlt⟩, { hm with un := ?_, len := by simp [St.setObj], heap := fun _ _ _ => rfl, size := Nat.le_refl _, old := fun _ _ _ _ => rfl, own := ?_, os := rfl, tape := rfl, output := rfl }⟩
  · intro i c h
    obtain ⟨q, h⟩ := gat i c h
    obtain ⟨y, q1, q2⟩ := inv.obj i c h
    refine ⟨y, ?_, q2.mono hm⟩
    simp only [St.setObj]
    rw [List.getElem?_set_ne (Ne.symm q)]; exact q1
  · intro i h
    simp only [St.setObj]
    by_cases q : i = o
    · subst q; simp [ho]
    · rw [gn i q] at h
      rw [List.getElem?_set_ne (Ne.symm q)]; exact inv.dead i h
  · intro i j c h h'
    exact inv.inj _ _ _ (gat i c h).2 (gat j c h').2
  · intro i l
    simp [St.setObj] at l
    rw [gn i (by omega)]; exact inv.beyond i l
  · intro i c h off; exact inv.away i c (gat i c h).2 off
  · intro t g h
    obtain ⟨q1, q2⟩ := inv.tip t g h
    exact ⟨q1, ⟨q2.row, q2.fin, q2.free, q2.lent⟩⟩
  · intro t g i h h'; exact inv.tipobj t g i h (gat i _ h').2
  · intro v r h
    obtain ⟨u, k⟩ := inv.pan v r h
    exact ⟨u, Rel.mono hm _ _ k⟩
  · intro i c cc el f h hc; exact inv.room _ _ _ _ _ (gat i c h).2 hc
  · intro i l h
    have q : i ≠ o := fun q => by subst q; rw [hg] at h; cases h
    refine ⟨by rw [gn i q]; exact h, ?_⟩
    simp only [St.setObj]
    rw [List.getElem?_set_ne (Ne.symm q)]
  · intro c l h
    rcases h with ⟨i, h⟩ | h
    · exact .inl ⟨i, (gat i c h).2⟩
    · exact .inr h

theorem RowsAt.append {sz : Nat} : ∀ {rows rows' : List AV} {b off : Nat}, RowsAt G sz rows b off → RowsAt G sz rows' b (off + rows.length * sz) → RowsAt G sz (rows ++ rows') b off
  | [], _, _, _, _, k => by simpa using k
  | .agg cs :: rs, _, b, off, h, k => by
    simp only [RowsAt] at h
    simp only [List.cons_append, RowsAt]
    refine ⟨h.1, h.2.1, h.2.2.append ?_⟩
    rw [List.length_cons, Nat.succ_mul] at k
    rw [show off + sz + rs.length * sz = off + (rs.length * sz + sz) by omega]; exact k
  | .bool _ :: _, _, _, _, k, _ | .int .. :: _, _, _, _, k, _ | .str _ :: _, _, _, _, k, _ | .ptr .. :: _, _, _, _, k, _ | .nilptr :: _, _, _, _, k, _ | .eptr .. :: _, _, _, _, k, _ | .lst .. :: _, _, _, _, k, _
  | .sl .. :: _, _, _, _, k, _ | .map _ :: _, _, _, _, k, _ | .nilmap :: _, _, _, _, k, _ | .func .. :: _, _, _, _, k, _ | .yld _ :: _, _, _, _, k, _ | .nilfunc :: _, _, _, _, k, _ | .iface .. :: _, _, _, _, k, _
  | .niliface :: _, _, _, _, k, _ | .tup _ :: _, _, _, _, k, _ | .junk :: _, _, _, _, k, _ => by simp [RowsAt] at k

theorem Inv.notLent (inv : Inv G S w) : G.lent w.heap.size = false := by
  cases hq : G.lent w.heap.size
  · rfl
  · have := inv.lentlt _ hq; omega

/-- What an append asks of types. -/
structure AppT (P : Program) (t u el : TypeId) where
  d : TypeDesc
  i : TypeInfo
  z : Value
  hu : P.underlying t = some (.slice el)
  hd : P.underlying u = some d
  hn : ∀ k, d ≠ .int k
  hi : P.info? el = some i
  hz : i.zero = some z
  hzs : z.cells.size = P.cellsOf el
  his : i.size = P.cellsOf el

/-- The end of an append to a new row. -/
theorem append_fresh (inv : Inv G S w) {t u el : TypeId} (T : AppT P t u el) {base : Option Addr} {c : Nat} {xv : Value} {old new csO csN : List AV} {olds news : List Value} (own : Bool)
    (hl : (Builtin.lenOf xv).run P w = .ok new.length w) (hg : c < old.length + new.length) (hb0 : T.i.bytes ≠ 0) (hfit : (old.length + new.length) * T.i.bytes ≤ bound47)
    (ho : (Builtin.firstCells T.i.size old.length (.slice base old.length c)).run P w.drew = .ok olds.toArray w.drew) (hx : (Builtin.firstCells T.i.size new.length xv).run P w.drew = .ok news.toArray w.drew)
    (fO : Flat (P.cellsOf el) old csO) (fN : Flat (P.cellsOf el) new csN) (rO : RelL G csO olds) (rN : RelL G csN news) (sO : csO.all scal = true) (sN : csN.all scal = true) (rt : TypeId) :
    AOk P G S w (do pure (.value (← Builtin.append_ #[t, u] rt #[.slice base old.length c, xv]))) (.sl S.objs.length 0 (old.length + new.length) none (P.cellsOf el)) (S.push (.cells (csO ++ csN))) ∧
    ∀ tp p tips', tips'[tp]? = some p → (∀ i v, i ≠ tp → S.tips[i]? = some v → tips'[i]? = some v) → (∀ g, G.tip tp = some g → g.len < p) →
      AOk P G S w (do pure (.value (← Builtin.append_ #[t, u] rt #[.slice base old.length c, xv]))) (.lst (.opn tp p) (P.cellsOf el) (old ++ new)) { S with tips := tips' } := by
  obtain ⟨rest, hrun, hrl⟩ := run_append_new (P := P) (w := w) T.hu T.hd T.hn T.hi T.hz (base := base) hl hg hb0 hfit ho hx rt
  have hcap := cap_ge w (old.length + new.length) c el
  generalize grownCap w (old.length + new.length) c el = cap at hrun hrl hcap
  have hX := (rO.append rN).length
  have hfl := (fO.append fN).length
  have hXl : (olds ++ news).length = (old.length + new.length) * P.cellsOf el := by rw [← hX, hfl]; simp
  have htot : ((olds ++ news) ++ rest).length = cap * P.cellsOf el := by
    rw [List.length_append, hXl, hrl, T.hzs, ← Nat.add_mul, Nat.add_sub_cancel' hcap]
  constructor
  · obtain ⟨G', i1, i2, i3, i4⟩ := new_ok (t := el) (rest := rest) inv.drew (rO.append rN) (all_append sO sN)
    refine AOk.val hrun ?_ i1 ((Step.drew G S w).trans i2)
    simp only [Rel, i3]
    refine ⟨cap, rfl, hcap, (fun k e => by cases e), fun _ => ⟨trivial, ?_⟩⟩
    rw [i4, htot]
  · intro tp p tips' h1 h2 h3
    obtain ⟨i1, i2⟩ := inv.drew.freshTip (w' := w.drew.alloc (.cells ((olds ++ news) ++ rest).toArray el)) (T := tp) (need := p) (cp := cap * P.cellsOf el) (tips' := tips') (X := olds ++ news) (rest := rest) (e := el)
      rfl rfl rfl rfl h1 h2 h3 (by rw [hXl]; exact Nat.mul_le_mul_right _ hcap) (by rw [htot]; exact Nat.le_refl _)
    refine AOk.val hrun ?_ i1 ((Step.drew G S w).trans i2)
    simp only [Rel]
    refine ⟨_, cap, by rw [List.length_append], by rw [List.length_append]; exact hcap, ?_, .inr ⟨w.heap.size, 0, rfl, ?_, .inr (inv.notLent)⟩⟩
    · refine ⟨_, by simp [Gh.newTip]; rfl, Nat.le_refl _, fun _ => ⟨_, rfl, rfl, ?_, ?_⟩⟩
      · simp at hXl ⊢; exact hXl.symm
      · simp
    · refine (fO.append fN).rowsAt (cellsAt_of (RelL.mono i2.toMono _ _ (rO.append rN)) (all_append sO sN) fun j v hj => ?_)
      simp only [Gh.newTip, Gh.newMem, World.drew]
      rw [if_pos trivial, Nat.zero_add]; exact hj

theorem run_append_zero {t u el : TypeId} {d : TypeDesc} {i : TypeInfo} (hu : P.underlying t = some (.slice el)) (hd : P.underlying u = some d) (hn : ∀ k, d ≠ .int k) (hi : P.info? el = some i)
    {a : Option Addr} {n c : Nat} {xv : Value} (hl : (Builtin.lenOf xv).run P w = .ok 0 w) (hg : n ≤ c)
    (hx : (Builtin.firstCells i.size 0 xv).run P w = .ok #[] w) (rt : TypeId) :
    (Builtin.append_ #[t, u] rt #[.slice a n c, xv]).run P w = .ok (.slice a n c) w := by
  have hm : (d matches .int _) = false := by cases d <;> first | rfl | exact absurd rfl (hn _)
  simp only [Builtin.append_, Sem.run_bind, Result.andThen_ok]
  cases a <;> simp [run_underlying hu, run_underlying hd, hm, sizeOf, typeInfo, hi, hl, hg, hx, storeCells]

theorem tips_append {T : List Nat} {p : Nat} : (T ++ [p])[T.length]? = some p ∧ ∀ i v, i ≠ T.length → T[i]? = some v → (T ++ [p])[i]? = some v := by
  refine ⟨by simp, fun i v h k => ?_⟩
  rw [List.getElem?_append_left (List.getElem?_eq_some_iff.1 k).1]; exact k

theorem append_ok (inv : Inv G S w) {t u el : TypeId} (T : AppT P t u el) {own : Bool} {s x v : AV} {sv xv : Value} {new : List AV} {S' : St} (hx : rowsOf S (P.cellsOf el) x = some new)
    (h : oAppend own (P.cellsOf el) T.i.bytes S s new = some (v, S')) (rs : Rel G s sv) (rx : Rel G x xv) (rt : TypeId) :
    AOk P G S w (do pure (.value (← Builtin.append_ #[t, u] rt #[sv, xv]))) v S' := by
  obtain ⟨csN, news, fN, rN, sN, hlN, hfN⟩ := cells_any (P := P) inv hx rx
  obtain ⟨csN', news', fN', rN', sN', hlN', hfN'⟩ := cells_any (P := P) inv.drew hx rx
  have hnl : news.length = new.length * P.cellsOf el := by rw [← rN.length, fN.length]
  cases new with
  | nil =>
    simp only [oAppend] at h
    cases hs : sliceV s
    · simp [hs] at h
    · simp only [hs, cond_true, Option.some.injEq, Prod.mk.injEq] at h
      obtain ⟨rfl, rfl⟩ := h
      have : ∃ a n c, sv = .slice a n c ∧ n ≤ c := by
        cases s <;> simp [sliceV] at hs
        · simp only [Rel] at rs; obtain ⟨a, c, rfl, l, _⟩ := rs; exact ⟨_, _, _, rfl, l⟩
        · simp only [Rel] at rs
          split at rs
          · obtain ⟨c, rfl, l, _⟩ := rs; exact ⟨_, _, _, rfl, l⟩
          · obtain ⟨a, c, rfl, l, _⟩ := rs; exact ⟨_, _, _, rfl, l⟩
          · exact rs.elim
      obtain ⟨a, n, c, rfl, hnc⟩ := this
      have hf := hfN 0 (Nat.le_refl _)
      simp at hf hlN
      refine AOk.val (cv := .slice a n c) ?_ rs inv (Step.refl G S w)
      have his := T.his
      rw [← his] at hf
      exact run_append_zero T.hu T.hd T.hn T.hi hlN hnc hf rt
  | cons n0 ns =>
    simp only [oAppend, Option.bind_eq_some_iff] at h
    obtain ⟨old, ho, h⟩ := h
    generalize hnew : n0 :: ns = new at *
    have hm0 : 0 < new.length := by rw [← hnew]; simp
    cases hc : (Nat.ble ((old.length + new.length) * T.i.bytes) bound47 && Nat.ble (old.length + new.length) maxStr && !Nat.beq (P.cellsOf el) 0 && !Nat.beq T.i.bytes 0)
    · simp [hc] at h
    · simp only [hc, cond_true] at h
      simp only [Bool.and_eq_true, Bool.not_eq_true'] at hc
      obtain ⟨⟨⟨c1, c2⟩, c3⟩, c4⟩ := hc
      have c1 : (old.length + new.length) * T.i.bytes ≤ bound47 := by simpa using c1
      have c3 : P.cellsOf el ≠ 0 := by intro q; simp [q] at c3
      have c4 : T.i.bytes ≠ 0 := by intro q; simp [q] at c4
      obtain ⟨csO, olds, fO, rO, sO, hlO, hfO⟩ := cells_any (P := P) inv.drew ho rs
      have hol : olds.length = old.length * P.cellsOf el := by rw [← rO.length, fO.length]
      have hoF := hfO old.length (Nat.le_refl _)
      rw [← hol, List.take_length] at hoF
      have hnl' : news'.length = new.length * P.cellsOf el := by rw [← rN'.length, fN'.length]
      have hxF := hfN' new.length (Nat.le_refl _)
      rw [← hnl', List.take_length] at hxF
      rw [← T.his] at hoF hxF
      have fresh : ∀ base c, sv = .slice base old.length c → c < old.length + new.length → ∀ v S', (match own with
          | false => some (AV.lst (.opn S.tips.length (old.length + new.length)) (P.cellsOf el) (old ++ new), { S with tips := S.tips ++ [old.length + new.length] })
          | true => (flat (old ++ new)).map fun cs => (AV.sl S.objs.length 0 (old.length + new.length) none (P.cellsOf el), S.push (.cells cs))) = some (v, S') →
          AOk P G S w (do pure (.value (← Builtin.append_ #[t, u] rt #[sv, xv]))) v S' := by
        rintro base c rfl hg v S' h
        obtain ⟨q1, q2⟩ := append_fresh inv T own hlN hg c4 c1 hoF hxF fO fN' rO rN' sO sN' rt
        cases own
        · simp only [Option.some.injEq, Prod.mk.injEq] at h
          obtain ⟨rfl, rfl⟩ := h
          refine q2 _ _ _ tips_append.1 tips_append.2 fun g hg => ?_
          have := (inv.tip _ g hg).1
          have := (List.getElem?_eq_some_iff.1 this).1; omega
        · simp only [Option.map_eq_some_iff, Prod.mk.injEq] at h
          obtain ⟨cs, h, rfl, rfl⟩ := h
          have := flat_eq (fO.append fN') h
          subst this
          exact q1
      cases s <;> try (simp only [reduceCtorEq] at h; done)
      case lst st sz' rows =>
        have hrow : rows = old := by
          simp only [rowsOf] at ho
          cases hq : (rows.isEmpty || Nat.beq (P.cellsOf el) sz')
          · simp [hq] at ho
          · simpa [hq] using ho
        subst hrow
        have rs0 := rs
        simp only [Rel] at rs
        obtain ⟨a, cap, rfl, hlc, ht, hr⟩ := rs
        cases st <;> try (simp only [reduceCtorEq] at h; done)
        case nil =>
          obtain ⟨rfl, rfl⟩ := ht
          exact fresh _ _ rfl (by omega) _ _ h
        case exact =>
          simp only [TipOk] at ht
          exact fresh _ _ rfl (by omega) _ _ h
        case opn tp pos =>
          obtain ⟨g, hgt, hle, hat⟩ := ht
          obtain ⟨k1, k2⟩ := inv.tip tp g hgt
          simp only [k1] at h
          cases hq : (Nat.beq g.len pos && !own && Nat.beq (P.cellsOf el) sz')
          · simp [hq] at h
          · simp only [hq, cond_true, Option.some.injEq, Prod.mk.injEq] at h
            obtain ⟨rfl, rfl⟩ := h
            simp only [Bool.and_eq_true, Bool.not_eq_true'] at hq
            obtain ⟨⟨q1, rfl⟩, q2⟩ := hq
            have q1 : g.len = pos := by simpa using q1
            have q2 : P.cellsOf el = sz' := by simpa using q2
            subst q1 q2
            obtain ⟨x, rfl, e1, e2, e3⟩ := hat rfl
            have hspot : x.spot = none := by
              rcases hr with ⟨_, hr⟩ | ⟨b, off, hh, _, _⟩
              · exact hr x rfl
              · cases hh; rfl
            obtain ⟨xb, xo, xs⟩ := x
            simp only at hspot e1 e2 e3; subst hspot e1
            by_cases hfit : rows.length + new.length ≤ cap
            · -- in place
              obtain ⟨cc, ce, hcc, hcs⟩ := k2.row
              have hfit' : g.fin + news.length ≤ g.cap := by
                rw [hnl, ← e2, ← e3, Nat.add_assoc, ← Nat.add_mul]
                exact Nat.add_le_add_left (Nat.mul_le_mul_right _ hfit) _
              have hfc := hfN new.length (Nat.le_refl _)
              rw [← hnl, List.take_length, ← T.his] at hfc
              have hst := run_storeCells_at (P := P) g.b g.fin ce news 0 cc w hcc (by omega) (scalL_one sN rN)
              simp only [Nat.add_zero] at hst
              obtain ⟨G', i1, i2, i3, i4⟩ := inv.growTip (m := new.length) hgt hcc hm0 hfit' rfl
              have hrun := run_append_here (P := P) (w := w) T.hu T.hd T.hn T.hi (a := ⟨g.b, xo, none⟩) (n := rows.length) (c := cap) hlN hfit hfc (by rw [add_lit, T.his, e2]; exact hst) rt
              refine AOk.val hrun ?_ i1 i2
              have hm := i2.toMono
              have rs1 := Rel.mono hm _ _ rs0
              simp only [Rel] at rs1 ⊢
              obtain ⟨a1, cap1, ea, _, _, hr1⟩ := rs1
              cases ea
              refine ⟨_, cap, by rw [List.length_append], by rw [List.length_append]; exact hfit, ⟨_, i3, Nat.le_refl _, fun _ => ⟨_, rfl, rfl, ?_, e3⟩⟩, .inr ⟨g.b, xo, rfl, ?_, ?_⟩⟩
              · show xo + (rows ++ new).length * P.cellsOf el = g.fin + news.length
                rw [List.length_append, Nat.add_mul, ← hnl, ← Nat.add_assoc, e2]
              · refine RowsAt.append ?_ ?_
                · rcases hr1 with ⟨rfl, _⟩ | ⟨b, off, hh, hr1, _⟩
                  · simp [RowsAt]
                  · cases hh; exact hr1
                · rw [e2]
                  exact fN.rowsAt (cellsAt_of (RelL.mono hm _ _ rN) sN i4)
              · right
                rw [hm.lent]
                exact k2.lent
            · obtain ⟨_, q⟩ := append_fresh inv T false hlN (by omega) c4 c1 hoF hxF fO fN' rO rN' sO sN' rt
              refine q tp (g.len + new.length) (S.tips.set tp (g.len + new.length)) ?_ ?_ ?_
              · simp [(List.getElem?_eq_some_iff.1 k1).1]
              · intro i v hi hv
                rw [List.getElem?_set_ne (Ne.symm hi)]; exact hv
              · intro g' hg'; rw [hgt] at hg'; cases hg'; omega
      case sl o off len cp sz' =>
        have ho0 := ho
        simp only [rowsOf] at ho
        cases hz : Nat.beq (P.cellsOf el) sz'
        · simp [hz] at ho
        · simp only [hz, cond_true] at ho
          have hz : P.cellsOf el = sz' := by simpa using hz
          subst hz
          split at ho
          · rename_i cells hob
            simp only [Option.map_eq_some_iff] at ho
            obtain ⟨cc, hcut, hch⟩ := ho
            have hlen : old.length = len := by rw [← hch, chunk_length]
            subst hlen
            simp only [Rel] at rs
            cases hg : G.obj o with
            | un => simp [hg] at rs
            | dead => rw [inv.dead o hg] at hob; cases hob
            | «at» b =>
              simp only [hg] at rs
              obtain ⟨c, rfl, hlc, hcap⟩ := rs
              cases cp with
              | some cap =>
                have := hcap.1 cap rfl
                subst this
                simp only at h
                cases hfit : Nat.ble (old.length + new.length) c
                · simp only [hfit, cond_false] at h
                  refine fresh _ _ rfl ?_ _ _ h
                  rcases Nat.lt_or_ge c (old.length + new.length) with l | l
                  · exact l
                  · rw [Nat.ble_eq_true_of_le l] at hfit; cases hfit
                · simp only [hfit, cond_true, Option.bind_eq_some_iff, Option.map_eq_some_iff, Prod.mk.injEq] at h
                  obtain ⟨cs, hfl, S1, hw, rfl, rfl⟩ := h
                  have := flat_eq fN hfl
                  subst this
                  obtain ⟨w', r1, r2, r3⟩ := write_ok (P := P) inv hw hg rN sN
                  have hfc := hfN new.length (Nat.le_refl _)
                  rw [← hnl, List.take_length, ← T.his] at hfc
                  have hrun := run_append_here (P := P) (w := w) T.hu T.hd T.hn T.hi (a := ⟨b, off, none⟩) (n := old.length) (c := c) hlN (by simpa using hfit) hfc (by rw [add_lit, T.his]; exact r1) rt
                  refine AOk.val hrun ?_ r2 r3
                  simp only [Rel, hg]
                  exact ⟨c, rfl, by simpa using hfit, fun k e => by cases e; rfl, fun e => by cases e⟩
              | none =>
                obtain ⟨rfl, hroom⟩ := hcap.2 rfl
                simp only [hob] at h
                have h00 : Nat.beq 0 0 = true := rfl
                simp only [h00, Bool.and_true] at h
                cases hq : (own && Nat.beq cells.length (old.length * P.cellsOf el))
                · simp [hq] at h
                · simp only [hq, cond_true, Option.map_eq_some_iff, Prod.mk.injEq] at h
                  obtain ⟨cs, hfl, rfl, rfl⟩ := h
                  simp only [Bool.and_eq_true] at hq
                  obtain ⟨rfl, q2⟩ := hq
                  have q2 : cells.length = old.length * P.cellsOf el := by simpa using q2
                  by_cases hfit : old.length + new.length ≤ c
                  · -- in place
                    obtain ⟨x, hx', k⟩ := inv.obj o b hg
                    rw [hob] at hx'; cases hx'
                    obtain ⟨vs, rest, e, hb, rl, sc⟩ := k
                    have hvl := rl.length
                    have hrm := inv.room o b _ _ _ hg hb
                    have hfc := hfN new.length (Nat.le_refl _)
                    rw [← hnl, List.take_length, ← T.his] at hfc
                    have hbig : vs.length + news.length ≤ (vs ++ rest).length := by
                      have : (vs ++ rest).length = c * P.cellsOf el := by rw [hroom, ← hrm]; simp
                      rw [this, ← hvl, q2, hnl, ← Nat.add_mul]
                      exact Nat.mul_le_mul_right _ hfit
                    have hst := run_storeCells_at (P := P) b vs.length e news 0 (vs ++ rest).toArray w hb (by simp at hbig ⊢; omega) (scalL_one sN rN)
                    have hcc : ((vs ++ rest).toArray.toList.take (vs.length + 0) ++ news ++ (vs ++ rest).toArray.toList.drop (vs.length + 0 + news.length)) = (vs ++ news) ++ rest.drop news.length := by
                      simp [List.drop_append]
                    rw [hcc] at hst
                    have hcs : cs = cells ++ csN := by
                      have hO : csO = cells := by
                        have hcl : cells.length = old.length * P.cellsOf el := q2
                        obtain ⟨hcl', hcc'⟩ := cut_eq hcut
                        rw [List.drop_zero, List.take_of_length_le (by omega)] at hcc'
                        subst hcc'
                        have := chunk_flat old.length cc hcl
                        rw [hch] at this
                        exact flat_eq this fO.flat
                      rw [← hO]; exact flat_eq (fO.append fN) hfl
                    subst hcs
                    obtain ⟨G', i1, i2, i3, i4⟩ := inv.regrow (X := news) (rest' := rest.drop news.length) hg hb rfl (by simp at hbig ⊢; omega) (rl.append rN) (all_append sc sN)
                    have hrun := run_append_here (P := P) (w := w) T.hu T.hd T.hn T.hi (a := ⟨b, 0, none⟩) (n := old.length) (c := c) hlN hfit hfc (by rw [add_lit, T.his, Nat.zero_add, ← q2, hvl]; exact hst) rt
                    refine AOk.val hrun ?_ i1 i2
                    simp only [Rel, i3]
                    refine ⟨c, rfl, hfit, (fun k e => by cases e), fun _ => ⟨trivial, ?_⟩⟩
                    rw [i4, hroom, ← hrm]; simp
                  · -- a new row
                    obtain ⟨G1, i1, i2⟩ := inv.kill hg
                    have hun : ∀ o', G.obj o' = .un → o' < S.objs.length → True := fun _ _ _ => trivial
                    obtain ⟨q, _⟩ := append_fresh i1 T true hlN (by omega) c4 c1 hoF hxF fO fN' (RelL.mono i2.toMono _ _ rO) (RelL.mono i2.toMono _ _ rN') sO sN' rt
                    have := flat_eq (fO.append fN') hfl
                    subst this
                    obtain ⟨y, G', w', h1, h2, h3, h4⟩ := q
                    have hlen : (S.setObj o .dead).objs.length = S.objs.length := by simp [St.setObj]
                    rw [hlen] at h2
                    exact ⟨y, G', w', h1, h2, h3, i2.trans h4⟩
          · cases ho

theorem zeros_length (z : List AV) : ∀ n, (zeros z n).length = n * z.length
  | 0 => by simp [zeros]
  | n + 1 => by simp [zeros, zeros_length z n, Nat.succ_mul]; omega

theorem zeros_all {z : List AV} (h : z.all scal = true) : ∀ n, (zeros z n).all scal = true
  | 0 => rfl
  | n + 1 => by simp only [zeros]; exact all_append h (zeros_all h n)

theorem zeros_rel {z : List AV} {vs : List Value} (r : RelL G z vs) (n : Nat) : RelL G (zeros z n) ((List.range (n * vs.length)).map fun i => vs.toArray[i % vs.toArray.size]!) := by
  induction n with
  | zero => simp [zeros, RelL]
  | succ n ih =>
    have : (List.range ((n + 1) * vs.length)).map (fun i => vs.toArray[i % vs.toArray.size]!) = vs ++ (List.range (n * vs.length)).map fun i => vs.toArray[i % vs.toArray.size]! := by
      apply List.ext_getElem?
      intro j
      rw [List.getElem?_append]
      by_cases hj : j < vs.length
      · have hlt : j < (n + 1) * vs.length := by rw [Nat.succ_mul]; omega
        simp [hj, hlt, Nat.mod_eq_of_lt hj]
      · rw [if_neg hj]
        by_cases hlt : j < (n + 1) * vs.length
        · have h2 : j - vs.length < n * vs.length := by rw [Nat.succ_mul] at hlt; omega
          have h3 : j % vs.length = (j - vs.length) % vs.length := Nat.mod_eq_sub_mod (by omega)
          simp [hlt, h2, h3]
        · have h2 : ¬ j - vs.length < n * vs.length := by rw [Nat.succ_mul] at hlt; omega
          simp [hlt, h2]
    rw [this]
    exact r.append ih

theorem zero_row {e : TypeId} {z : Value} (hzs : z.cells.size = P.cellsOf e) (len : Nat) :
    ((Array.range (len * P.cellsOf e)).map fun i => z.cells[i % z.cells.size]!) = ((List.range (len * z.cells.toList.length)).map fun i => z.cells.toList.toArray[i % z.cells.toList.toArray.size]!).toArray := by
  apply Array.ext'
  simp only [Array.toList_map, Array.toList_range, Array.toArray_toList, Array.length_toList, hzs]

theorem buildSlice_ok (inv : Inv G S w) {t : TypeId} {len : Nat} {parts : List (Nat × AV)} {vparts : Array (Nat × Value)} {r : Nat × List AV} (own : Bool) (h : oBuildCells P t len parts = some r)
    (hi : parts.map (·.1) = vparts.toList.map (·.1)) (hr : RelL G (parts.map (·.2)) (vparts.toList.map (·.2))) {v : AV} {S' : St}
    (hv : (match own with | true => (AV.sl S.objs.length 0 len (some len) r.1, S.push (.cells r.2)) | false => (AV.lst .exact r.1 (chunk r.1 len r.2), S)) = (v, S')) :
    AOk P G S w (do pure (.value (← Instr.buildSlice t len vparts))) v S' := by
  unfold oBuildCells at h
  split at h
  · rename_i e hu
    cases hb : (okT P e && Nat.ble (len * sizeT P e) 16777216)
    · simp [hb] at h
    · simp only [hb, cond_true, Option.map_eq_some_iff] at h
      obtain ⟨cs, h, rfl⟩ := h
      simp only [Bool.and_eq_true] at hb
      obtain ⟨i, z, hinfo, hz, hzs, his⟩ := okT_spec hb.1
      have hle : len * P.cellsOf e ≤ 16777216 := by simpa [sizeT] using hb.2
      have hzr := zeroT_rel (G := G) hinfo hz
      have hz0 := zeros_rel hzr len
      obtain ⟨us, q1, q2⟩ := fill_rel h hz0 hi hr
      have hsc : cs.all scal = true := by
        have : ∀ {place : Nat → Option (Nat × Nat)} {parts : List (Nat × AV)} {cells out : List AV}, fillA place cells parts = some out → cells.all scal = true → out.all scal = true := by
          intro place parts
          induction parts with
          | nil => intro cells out h k; simp [fillA] at h; subst h; exact k
          | cons p ps ih =>
            intro cells out h k
            obtain ⟨j, x⟩ := p
            simp only [fillA] at h
            split at h
            · rename_i off size cs' _ hcs
              cases hq : (Nat.beq cs'.length size && Nat.ble (off + size) cells.length)
              · simp [hq] at h
              · simp only [hq, cond_true] at h
                refine ih h ?_
                have hx : cs'.all scal = true := by
                  cases x <;> simp only [AV.cells] at hcs
                  case agg l =>
                    cases hs : l.all scal
                    · simp [hs] at hcs
                    · simp [hs] at hcs; subst hcs; exact hs
                  all_goals simp only [scal, cond_true, cond_false, Option.some.injEq, reduceCtorEq] at hcs
                  all_goals (subst hcs; rfl)
                simp only [splice]
                refine all_append (all_append ?_ hx) ?_
                · rw [List.all_eq_true] at k ⊢; exact fun y hy => k y (List.mem_of_mem_take hy)
                · rw [List.all_eq_true] at k ⊢; exact fun y hy => k y (List.mem_of_mem_drop hy)
            · cases h
        exact this h (zeros_all (okT_scal hb.1) len)
      have hul : us.toList.length = len * P.cellsOf e := by
        have h1 := q2.length
        have : ∀ {place : Nat → Option (Nat × Nat)} {parts : List (Nat × AV)} {cells out : List AV}, fillA place cells parts = some out → out.length = cells.length := by
          intro place parts
          induction parts with
          | nil => intro cells out h; simp [fillA] at h; subst h; rfl
          | cons p ps ih =>
            intro cells out h
            obtain ⟨j, x⟩ := p
            simp only [fillA] at h
            split at h
            · rename_i off size cs' _ hcs
              cases hq : (Nat.beq cs'.length size && Nat.ble (off + size) cells.length)
              · simp [hq] at h
              · simp only [hq, cond_true] at h
                rw [ih h]
                simp only [Bool.and_eq_true] at hq
                have q1 : cs'.length = size := by simpa using hq.1
                have q2 : off + size ≤ cells.length := by simpa using hq.2
                simp [splice]; omega
            · cases h
        rw [← h1, this h, zeros_length, hzr.length]
        simp [hzs]
      have hrun : ∃ cells : Array Value, cells = us ∧ (Instr.buildSlice t len vparts).run P w = .ok (.slice (some ⟨w.heap.size, 0, none⟩) len len) (w.alloc (.cells cells e)) := by
        refine ⟨us, rfl, ?_⟩
        have hrow := zero_row (P := P) (e := e) hzs len
        have hgt : ¬ len * P.cellsOf e > 2 ^ 24 := by omega
        simp only [sizeT] at q1
        have q1 : Instr.fill (fun i => some (i * P.cellsOf e, P.cellsOf e)) ((Array.range (len * P.cellsOf e)).map fun i => z.cells[i % z.cells.size]!) vparts.toList = some us := by rw [hrow]; exact q1
        by_cases q : len * P.cellsOf e = 0
        · have e0 : ∀ (f g : Nat → Value), (Array.range (len * P.cellsOf e)).map f = (Array.range (len * P.cellsOf e)).map g := fun f g => by rw [q]; simp
          simp only [Instr.buildSlice, Sem.run_bind, run_underlying hu, Result.andThen_ok, run_sizeOf w hinfo, if_neg hgt, if_pos q, Sem.run_pure]
          rw [e0 _ (fun i => z.cells[i % z.cells.size]!), q1]
          simp [newRow]
        · simp only [Instr.buildSlice, Sem.run_bind, run_underlying hu, Result.andThen_ok, run_sizeOf w hinfo, if_neg hgt, if_neg q, Sem.run_pure, run_zeroValue' hinfo hz]
          rw [q1]
          simp [newRow]
      obtain ⟨cells, rfl, hrun⟩ := hrun
      cases own
      · simp only [Prod.mk.injEq] at hv
        obtain ⟨rfl, rfl⟩ := hv
        obtain ⟨a1, a2, a3⟩ := alloc_heap w (.cells cells e)
        obtain ⟨i1, i2⟩ := inv.fresh (w' := w.alloc (.cells cells e)) (fun off => cells[off]?) a1 a2 (fun off v h => by simp only [World.cell?, a3, Option.isSome_none, Bool.false_eq_true, if_false]; exact h) rfl rfl rfl
        refine AOk.val hrun ?_ i1 i2
        simp only [Rel]
        refine ⟨_, len, by rw [chunk_length], by rw [chunk_length]; exact Nat.le_refl _, by simp [TipOk, chunk_length], .inr ⟨w.heap.size, 0, rfl, ?_, .inr inv.notLent⟩⟩
        refine (chunk_flat len cs (by rw [q2.length, hul]; rfl)).rowsAt (cellsAt_of (RelL.mono i2.toMono _ _ q2) hsc fun j v hj => ?_)
        simp only [Gh.newMem]; rw [if_pos trivial, Nat.zero_add]; simpa using hj
      · simp only [Prod.mk.injEq] at hv
        obtain ⟨rfl, rfl⟩ := hv
        obtain ⟨G', i1, i2, i3, i4⟩ := new_ok (t := e) (rest := []) (vs := cells.toList) inv q2 hsc
        simp only [List.append_nil, Array.toArray_toList] at i1 i2
        refine AOk.val hrun ?_ i1 i2
        simp only [Rel, i3]
        exact ⟨len, rfl, Nat.le_refl _, (fun k e => by cases e; rfl), fun e => by cases e⟩
  · cases h

theorem makeSlice_ok (inv : Inv G S w) {t : TypeId} {l c v : AV} {lv cv : Value} {S' : St} (h : oMakeSlice P t S l c = some (v, S')) (rl : Rel G l lv) (rc : Rel G c cv) :
    AOk P G S w (do pure (.value (← Instr.makeSlice t lv cv))) v S' := by
  unfold oMakeSlice at h
  split at h
  · rename_i e ln cn hu hln hcn
    cases hb : (okT P e && Nat.ble ln cn && Nat.ble cn maxStr && Nat.ble (cn * bytesT P e) bound47)
    · simp [hb] at h
    · simp only [hb, cond_true, Option.some.injEq, Prod.mk.injEq] at h
      obtain ⟨rfl, rfl⟩ := h
      simp only [Bool.and_eq_true] at hb
      obtain ⟨⟨⟨h1, h2⟩, h3⟩, h4⟩ := hb
      obtain ⟨i, z, hinfo, hz, hzs, his⟩ := okT_spec h1
      have h2 : ln ≤ cn := by simpa using h2
      have h3 : cn ≤ maxStr := by simpa using h3
      have h4 : cn * i.bytes ≤ bound47 := by simpa [bytesT, hinfo] using h4
      have asn : ∀ {x : AV} {xv : Value} {n : Nat}, asNat x = some n → Rel G x xv → ∃ k, xv = .int k n := by
        intro x xv n h r
        cases x <;> simp only [asNat] at h <;> try (cases h; done)
        rename_i k m
        simp only [Rel] at r
        cases hm : decide (0 ≤ m)
        · simp [hm] at h
        · simp [hm] at h
          refine ⟨k, ?_⟩
          rw [r]; congr 1
          have : 0 ≤ m := by simpa using hm
          omega
      obtain ⟨kl, rfl⟩ := asn hln rl
      obtain ⟨kc, rfl⟩ := asn hcn rc
      have hzr := zeroT_rel (G := G) hinfo hz
      obtain ⟨G', i1, i2, i3, i4⟩ := new_ok (t := e) (rest := []) inv (zeros_rel hzr cn) (zeros_all (okT_scal h1) cn)
      simp only [List.append_nil] at i1 i2
      refine AOk.val (cv := .slice (some ⟨w.heap.size, 0, none⟩) ln cn) ?_ ?_ i1 i2
      · have hb : (i.bytes : Int) * (cn : Int) ≤ 281474976710656 := by
          unfold bound47 at h4
          have : (i.bytes : Int) * cn = ((cn * i.bytes : Nat) : Int) := by rw [Nat.mul_comm]; simp
          rw [this]; omega
        have := run_make (P := P) w t e i z hu hinfo hz kl kc (ln : Int) (cn : Int) (by omega) (by omega) hb (by unfold maxStr at h3; omega)
        rw [this]
        have hrow := zero_row (P := P) (e := e) hzs cn
        have hm : madeCells z.cells (cn * i.size) = ((List.range (cn * z.cells.toList.length)).map fun i => z.cells.toList.toArray[i % z.cells.toList.toArray.size]!).toArray := by
          rw [← hrow, his]; rfl
        simp only [Int.toNat_natCast, hm]
      · simp only [Rel, i3]
        exact ⟨cn, rfl, h2, (fun k e => by cases e; rfl), fun e => by cases e⟩
  · cases h

end
end Go.Sac
