/- Operations that turn the state: slices. -/
import Derived.Test.YtippafigppeblaaGreatSacM
import Derived.Laws.Append
namespace Go.Sac
set_option linter.unusedVariables false
set_option linter.unusedSimpArgs false
open Go

section
variable {P : Program} {G : Gh} {S : St} {w : World}

theorem bytes_take (s : List UInt8) (k : Nat) : (ByteArray.extract ⟨s.toArray⟩ 0 k).data.toList = s.take k := by
  rw [bytes_extract]; simp

/-- The rows of a slice or a string, as an append or a copy reads them. -/
theorem cells_any (inv : Inv G S w) {sz : Nat} {a : AV} {v : Value} {rows : List AV} (h : rowsOf S sz a = some rows) (r : Rel G a v) :
    ∃ cs vs, Flat sz rows cs ∧ RelL G cs vs ∧ cs.all scal = true ∧ (Builtin.lenOf v).run P w = .ok rows.length w ∧
      ∀ k, k ≤ rows.length → (Builtin.firstCells sz k v).run P w = .ok (vs.take (k * sz)).toArray w := by
  by_cases hs : sliceV a = true
  · obtain ⟨p, cap, cs, vs, rfl, hl, hf, hr, hsc, hm⟩ := rows_rel inv h hs r
    refine ⟨cs, vs, hf, hr, hsc, rfl, fun k hk => ?_⟩
    have hlen : vs.length = rows.length * sz := by rw [← hr.length, hf.length]
    cases p with
    | none =>
      rcases hm with rfl | ⟨_, _, e, _⟩
      · simp at hk; subst hk; simp [Builtin.firstCells]
      · cases e
    | some x =>
      have hkl : (vs.take (k * sz)).length = k * sz := by
        have := Nat.mul_le_mul_right sz hk
        simp; omega
      simp only [Builtin.firstCells]
      rw [← hkl]
      rw [run_loadCells_list (P := P) w x (vs.take (k * sz))]
      · simp
      · intro j u hj
        rcases hm with rfl | ⟨b, off, e, hm⟩
        · simp at hk; subst hk; simp at hj
        · cases e
          rw [add_lit]
          refine hm j u ?_
          rw [List.getElem?_take] at hj
          split at hj
          · exact hj
          · cases hj
  · cases a <;> simp only [rowsOf, reduceCtorEq] at h <;> try (exact absurd rfl hs)
    rename_i s
    cases hz : Nat.beq sz 1
    · simp [hz] at h
    · simp [hz] at h; subst h
      have hz : sz = 1 := by simpa using hz
      subst hz
      simp only [Rel] at r; subst r
      have hsz : ByteArray.size ⟨s.toArray⟩ = s.length := by simp [ByteArray.size]
      refine ⟨s.map fun b => .int .u8 b.toNat, s.map fun b => .int .u8 b.toNat, ?_, ?_, ?_, by simp [Builtin.lenOf, hsz], fun k hk => ?_⟩
      · clear hs hsz
        induction s with
        | nil => rfl
        | cons b s ih => exact ⟨[.int .u8 b.toNat], s.map fun b => .int .u8 b.toNat, rfl, rfl, rfl, ih⟩
      · clear hs hsz
        induction s with
        | nil => rfl
        | cons b s ih => exact ⟨_, _, rfl, rfl, ih⟩
      · simp [scal]
      · simp only [Builtin.firstCells, Sem.run_pure]
        congr 1
        apply Array.ext'
        rw [Array.toList_map, bytes_take]
        simp [List.map_take]

theorem flat_eq {sz : Nat} {rows cs cs' : List AV} (h : Flat sz rows cs) (k : flat rows = some cs') : cs' = cs := by
  rw [h.flat] at k; exact (Option.some.inj k).symm

theorem all_append {cs cs' : List AV} (h : cs.all scal = true) (k : cs'.all scal = true) : (cs ++ cs').all scal = true := by simp [List.all_append, h, k]

theorem copy_ok (inv : Inv G S w) {t el u : TypeId} (hu : P.underlying t = some (.slice el)) (hi : (P.info? el).isSome = true) {d s v : AV} {dv sv : Value} {S' : St} (h : oCopy (sizeT P el) S d s = some (v, S'))
    (rd : Rel G d dv) (rs : Rel G s sv) (rt : TypeId) : AOk P G S w (do pure (.value (← Builtin.copy_ #[t, u] rt #[dv, sv]))) v S' := by
  obtain ⟨inf, hi⟩ := isSome_get hi
  unfold oCopy at h
  split at h
  · rename_i o off len cap sz'
    cases hz : Nat.beq (sizeT P el) sz'
    · simp [hz] at h
    · simp only [hz, cond_true, Option.bind_eq_some_iff, Option.map_eq_some_iff, Prod.mk.injEq] at h
      obtain ⟨rows, h1, cs, h2, S1, h3, rfl, rfl⟩ := h
      obtain ⟨cells, vs, hf, hr, hsc, hl, hfc⟩ := cells_any (P := P) inv h1 rs
      have hcs := flat_eq (hf.take len) h2
      subst hcs
      have hob : ∃ b, G.obj o = .at b := by
        simp only [Rel] at rd
        cases hg : G.obj o with
        | un => simp [hg] at rd
        | dead => unfold oWrite at h3; rw [inv.dead o hg] at h3; cases h3
        | «at» b => exact ⟨b, rfl⟩
      obtain ⟨b, hg⟩ := hob
      simp only [Rel, hg] at rd
      obtain ⟨c, rfl, _⟩ := rd
      obtain ⟨w', q1, q2, q3⟩ := write_ok (P := P) inv h3 hg (hr.take (len * sizeT P el)) (by
        rw [List.all_eq_true] at hsc ⊢; exact fun x hx => hsc x (List.mem_of_mem_take hx))
      refine AOk.val (cv := .int .i64 ((min rows.length len : Nat) : Int)) ?_ rfl q2 q3
      have hmin : Nat.min rows.length len = min rows.length len := rfl
      have hk := hfc (min rows.length len) (Nat.min_le_left _ _)
      have htk : vs.take (min rows.length len * sizeT P el) = vs.take (len * sizeT P el) := by
        have : vs.length = rows.length * sizeT P el := by rw [← hr.length, hf.length]
        rcases Nat.le_total rows.length len with q | q
        · rw [Nat.min_eq_left q, ← this, List.take_of_length_le (Nat.le_refl _), List.take_of_length_le]
          rw [this]; exact Nat.mul_le_mul_right _ q
        · rw [Nat.min_eq_right q]
      rw [htk] at hk
      simp only [sizeT] at hk q1
      simp [Builtin.copy_, run_underlying hu, hl, hmin, run_sizeOf w hi, hk, q1, goInt]
  · cases h

theorem cap_ge (w : World) (need old : Nat) (e : TypeId) : need ≤ grownCap w need old e := by simp [grownCap, Question.cut]

/-- An append that needs a new row. -/
theorem run_append_new {t u el : TypeId} {d : TypeDesc} {i : TypeInfo} {z : Value} (hu : P.underlying t = some (.slice el)) (hd : P.underlying u = some d) (hn : ∀ k, d ≠ .int k) (hi : P.info? el = some i) (hz : i.zero = some z)
    {base : Option Addr} {n c m : Nat} {xv : Value} {olds news : List Value} (hl : (Builtin.lenOf xv).run P w = .ok m w) (hg : c < n + m) (hb0 : i.bytes ≠ 0) (hfit : (n + m) * i.bytes ≤ bound47)
    (ho : (Builtin.firstCells i.size n (.slice base n c)).run P w.drew = .ok olds.toArray w.drew) (hx : (Builtin.firstCells i.size m xv).run P w.drew = .ok news.toArray w.drew) (rt : TypeId) :
    ∃ rest, (Builtin.append_ #[t, u] rt #[.slice base n c, xv]).run P w = .ok (.slice (some ⟨w.heap.size, 0, none⟩) (n + m) (grownCap w (n + m) c el)) (w.drew.alloc (.cells ((olds ++ news) ++ rest).toArray el)) ∧
      rest.length = (grownCap w (n + m) c el - (n + m)) * z.cells.size := by
  refine ⟨(Builtin.zeroCells z.cells (grownCap w (n + m) c el - (n + m))).toList, ?_, by simp [Builtin.zeroCells]⟩
  have hint : ∀ (x y : Sem Bool), (match (some d : Option TypeDesc) with | some (.int _) => x | _ => y) = y := by
    intro x y; cases d <;> first | rfl | exact absurd rfl (hn _)
  have hm : (d matches .int _) = false := by cases d <;> first | rfl | exact absurd rfl (hn _)
  have h1 : ¬ (n + m ≤ c) := by omega
  have h2 : ¬ (Builtin.nextslicecap (n + m) c * i.bytes > 2 ^ 48) := by
    have := Nat.mul_le_mul_right i.bytes (nextslicecap_le hg)
    rw [Nat.mul_assoc] at this
    unfold bound47 at hfit
    omega
  have h3 : ¬ (281474976710656 < Builtin.nextslicecap (n + m) c * i.bytes) := h2
  simp only [Builtin.append_, Sem.run_bind, Result.andThen_ok]
  simp [run_underlying hu, run_underlying hd, hm, sizeOf, typeInfo, zeroValue, hi, hz, hl, h1, hb0, h3, Question.forced, ho, hx, newRow, grownCap]
  congr 2
  apply Array.ext'
  simp

/-- An append in place. -/
theorem run_append_here {t u el : TypeId} {d : TypeDesc} {i : TypeInfo} (hu : P.underlying t = some (.slice el)) (hd : P.underlying u = some d) (hn : ∀ k, d ≠ .int k) (hi : P.info? el = some i)
    {a : Addr} {n c m : Nat} {xv : Value} {news : List Value} {w' : World} (hl : (Builtin.lenOf xv).run P w = .ok m w) (hg : n + m ≤ c)
    (hx : (Builtin.firstCells i.size m xv).run P w = .ok news.toArray w) (hs : (storeCells (a.add (n * i.size)) news).run P w = .ok () w') (rt : TypeId) :
    (Builtin.append_ #[t, u] rt #[.slice (some a) n c, xv]).run P w = .ok (.slice (some a) (n + m) c) w' := by
  have hm : (d matches .int _) = false := by cases d <;> first | rfl | exact absurd rfl (hn _)
  simp only [Builtin.append_, Sem.run_bind, Result.andThen_ok]
  simp [run_underlying hu, run_underlying hd, hm, sizeOf, typeInfo, hi, hl, hg, hx, hs]

theorem cellsAt_of {b : Nat} : ∀ {cs : List AV} {vs : List Value} {off : Nat}, RelL G cs vs → cs.all scal = true → (∀ j v, vs[j]? = some v → G.mem b (off + j) = some v) → CellsAt G cs b off
  | [], _, _, _, _, _ => by simp [CellsAt]
  | c :: cs, _, off, r, s, h => by
    obtain ⟨v, vs, rfl, r1, r2⟩ := r
    simp only [List.all_cons, Bool.and_eq_true] at s
    simp only [CellsAt]
    refine ⟨⟨v, by have := h 0 v rfl; simpa using this, r1, s.1⟩, cellsAt_of r2 s.2 fun j u hj => ?_⟩
    have := h (j + 1) u (by simpa using hj)
    rwa [show off + 1 + j = off + (j + 1) by omega]

def Gh.newTip (G : Gh) (t : Nat) (g : TipG) : Gh := { G with tip := fun i => if i = t then some g else G.tip i }

/-- A new row whose end may grow. -/
theorem Inv.freshTip (inv : Inv G S w) {w' : World} {T need cp : Nat} {tips' : List Nat} {X rest : List Value} {e : TypeId} (hw : w'.heap = w.heap.push (.cells (X ++ rest).toArray e)) (ho : w'.os = w.os) (ht : w'.tape = w.tape) (hu : w'.output = w.output)
    (h1 : tips'[T]? = some need) (h2 : ∀ i v, i ≠ T → S.tips[i]? = some v → tips'[i]? = some v) (h3 : ∀ g, G.tip T = some g → g.len < need) (hc1 : X.length ≤ cp) (hc2 : cp ≤ (X ++ rest).length) :
    Inv ((G.newMem w.heap.size fun off => X[off]?).newTip T ⟨w.heap.size, X.length, cp, need⟩) { S with tips := tips' } w' ∧
    Step G S w ((G.newMem w.heap.size fun off => X[off]?).newTip T ⟨w.heap.size, X.length, cp, need⟩) { S with tips := tips' } w' := by
  have hs : w'.heap.size = w.heap.size + 1 := by rw [hw]; exact Array.size_push ..
  have hb : ∀ c, c < w.heap.size → w'.heap[c]? = w.heap[c]? := fun c hc => by rw [hw, Array.getElem?_push, if_neg (Nat.ne_of_lt hc)]
  have hnew : w'.heap[w.heap.size]? = some (.cells (X ++ rest).toArray e) := by rw [hw]; simp
  obtain ⟨i1, i2⟩ := inv.fresh (w' := w') (fun off => X[off]?) hs hb (fun off v h => by
    simp only [World.cell?, hnew, Option.isSome_none, Bool.false_eq_true, if_false, List.getElem?_toArray]
    rw [List.getElem?_append_left (List.getElem?_eq_some_iff.1 h).1]; exact h) ho ht hu
  have hm1 := i2.toMono
  have hm : Mono G ((G.newMem w.heap.size fun off => X[off]?).newTip T ⟨w.heap.size, X.length, cp, need⟩) := by
    refine ⟨hm1.obj, hm1.dead, fun t g e => ?_, hm1.mem, hm1.room, hm1.room', hm1.lent⟩
    simp only [Gh.newTip]
    by_cases q : t = T
    · subst q; have := h3 g e; exact ⟨_, if_pos rfl, by simp; omega, by simp; omega⟩
    · exact ⟨g, by rw [if_neg q]; exact e, Nat.le_refl _, fun _ => rfl⟩
  have hm2 : Mono (G.newMem w.heap.size fun off => X[off]?) ((G.newMem w.heap.size fun off => X[off]?).newTip T ⟨w.heap.size, X.length, cp, need⟩) := by
    refine ⟨fun _ _ e => .inl e, fun _ e => e, fun t g e => ?_, fun _ _ _ e => e, fun _ _ _ => rfl, fun _ _ => rfl, fun _ => rfl⟩
    simp only [Gh.newTip]
    by_cases q : t = T
    · subst q; have := h3 g e; exact ⟨_, if_pos rfl, by simp; omega, by simp; omega⟩
    · exact ⟨g, by rw [if_neg q]; exact e, Nat.le_refl _, fun _ => rfl⟩
  refine ⟨⟨?_, i1.dead, i1.inj, i1.beyond, i1.mem, i1.away, ?_, ?_, ?_, ?_, i1.room, i1.lentlt⟩, { hm with un := fun o l e => ⟨e, rfl⟩, len := Nat.le_refl _, heap := i2.heap, size := i2.size, old := i2.old, own := ?_, os := ho, tape := ht, output := hu }⟩
  · intro o b e
    obtain ⟨y, q1, q2⟩ := i1.obj o b e
    exact ⟨y, q1, q2.mono hm2⟩
  · intro t g e
    simp only [Gh.newTip] at e
    by_cases q : t = T
    · subst q; rw [if_pos rfl] at e; cases e
      refine ⟨h1, ⟨⟨_, _, hnew, ?_⟩, hc1, ?_, ?_⟩⟩
      · show cp ≤ (X ++ rest).toArray.size
        simpa using hc2
      · intro off l
        show (if w.heap.size = w.heap.size then X[off]? else _) = none
        rw [if_pos rfl]; exact List.getElem?_eq_none l
      · show G.lent w.heap.size = false
        cases hq : G.lent w.heap.size
        · rfl
        · have := inv.lentlt _ hq; omega
    · rw [if_neg q] at e
      obtain ⟨q1, q2⟩ := i1.tip t g e
      exact ⟨h2 t _ q q1, ⟨q2.row, q2.fin, q2.free, q2.lent⟩⟩
  · intro t g o e e'
    simp only [Gh.newTip] at e
    by_cases q : t = T
    · rw [if_pos q] at e; cases e
      have := inv.lt (show G.obj o = .at w.heap.size from e'); omega
    · rw [if_neg q] at e; exact inv.tipobj t g o e e'
  · intro t g t' g' e e' hgg
    simp only [Gh.newTip] at e e'
    by_cases q : t = T <;> by_cases q' : t' = T
    · omega
    · rw [if_pos q] at e; cases e; rw [if_neg q'] at e'
      have := inv.tip_lt (show G.tip t' = some g' from e'); simp at hgg; omega
    · rw [if_pos q'] at e'; cases e'; rw [if_neg q] at e
      have := inv.tip_lt (show G.tip t = some g from e); simp at hgg; omega
    · rw [if_neg q] at e; rw [if_neg q'] at e'; exact inv.tiptip t g t' g' e e' hgg
  · intro v r e
    obtain ⟨u, k⟩ := inv.pan v r e
    exact ⟨u, Rel.mono hm _ _ k⟩
  · intro b l e
    rcases e with ⟨o, e⟩ | ⟨t, g, e, q⟩
    · exact .inl ⟨o, e⟩
    · simp only [Gh.newTip] at e
      by_cases q' : t = T
      · rw [if_pos q'] at e; cases e; simp at q; omega
      · rw [if_neg q'] at e; exact .inr ⟨t, g, e, q⟩

/-- The row grows in place. -/
theorem Inv.growTip (inv : Inv G S w) {w' : World} {t m : Nat} {g : TipG} (hg : G.tip t = some g) {X : List Value} {c : Array Value} {e : TypeId} (hc : w.heap[g.b]? = some (.cells c e (0, 0))) (hm0 : 0 < m)
    (hfit : g.fin + X.length ≤ g.cap) (hw : w' = w.setRow g.b (c.toList.take g.fin ++ X ++ c.toList.drop (g.fin + X.length)).toArray) :
    ∃ G', Inv G' { S with tips := S.tips.set t (g.len + m) } w' ∧ Step G S w G' { S with tips := S.tips.set t (g.len + m) } w' ∧ G'.tip t = some { g with fin := g.fin + X.length, len := g.len + m } ∧
      ∀ j v, X[j]? = some v → G'.mem g.b (g.fin + j) = some v := by
  obtain ⟨k1, k2⟩ := inv.tip t g hg
  obtain ⟨c', e', hc', hcap⟩ := k2.row
  rw [hc] at hc'; cases hc'
  have hfc : g.fin ≤ c.size := Nat.le_trans k2.fin hcap
  have hcl : g.fin + X.length ≤ c.toList.length := by simp; omega
  have hlt := inv.tip_lt hg
  have hrow : w'.heap[g.b]? = some (.cells (c.toList.take g.fin ++ X ++ c.toList.drop (g.fin + X.length)).toArray e (0, 0)) := by
    rw [hw]; simp only [World.setRow]; rw [Array.getElem?_modify, if_pos rfl, hc]; rfl
  have hoth : ∀ b, b ≠ g.b → w'.heap[b]? = w.heap[b]? := fun b hb => by
    rw [hw]; simp only [World.setRow]; rw [Array.getElem?_modify, if_neg (Ne.symm hb)]
  have hsz : w'.heap.size = w.heap.size := by rw [hw]; simp [World.setRow]
  let G' : Gh := { G with
    tip := fun i => if i = t then some { g with fin := g.fin + X.length, len := g.len + m } else G.tip i
    mem := fun b off => if b = g.b ∧ g.fin ≤ off ∧ off < g.fin + X.length then X[off - g.fin]? else G.mem b off }
  have hm : Mono G G' := by
    refine ⟨fun _ _ h => .inl h, fun _ h => h, fun i gi hi => ?_, fun b off v hv => ?_, fun _ _ _ => rfl, fun _ _ => rfl, fun _ => rfl⟩
    · by_cases q : i = t
      · subst q; rw [hg] at hi; cases hi
        exact ⟨_, if_pos rfl, by simp, by simp; omega⟩
      · exact ⟨gi, by simp only [G']; rw [if_neg q]; exact hi, Nat.le_refl _, fun _ => rfl⟩
    · simp only [G']
      rw [if_neg]
      · exact hv
      · rintro ⟨rfl, q, _⟩
        rw [k2.free off q] at hv; cases hv
  have hX : ∀ j v, X[j]? = some v → G'.mem g.b (g.fin + j) = some v := fun j v hj => by
    have := (List.getElem?_eq_some_iff.1 hj).1
    simp only [G']; rw [if_pos ⟨trivial, by omega, by omega⟩]
    rw [show g.fin + j - g.fin = j by omega]; exact hj
  refine ⟨G', ⟨?_, inv.dead, inv.inj, inv.beyond, ?_, ?_, ?_, ?_, ?_, ?_, ?_, fun b l => by have := inv.lentlt b l; omega⟩, { hm with un := fun o l h => ⟨h, rfl⟩, len := Nat.le_refl _, heap := ?_, size := by omega, old := fun b l n off => (by simp only [G']; rw [if_neg]; rintro ⟨q, _⟩; exact n (.inr ⟨t, g, hg, q.symm⟩)), own := ?_, os := by rw [hw]; rfl, tape := by rw [hw]; rfl, output := by rw [hw]; rfl }, if_pos rfl, hX⟩
  · intro o b h
    obtain ⟨y, q1, q2⟩ := inv.obj o b h
    exact ⟨y, q1, (q2.mono hm).congr (hoth b fun q => inv.tipobj t g o hg (by rw [← q]; exact h))⟩
  · intro b off v h
    simp only [G'] at h
    split at h
    · rename_i q
      obtain ⟨rfl, q1, q2⟩ := q
      simp only [World.cell?, hrow, Option.isSome_none, Bool.false_eq_true, if_false, List.getElem?_toArray]
      rw [List.getElem?_append_left (by simp; omega), List.getElem?_append_right (by simp; omega)]
      have : (List.take g.fin c.toList).length = g.fin := by simp; omega
      rw [this]; exact h
    · rename_i q
      by_cases qb : b = g.b
      · subst qb
        have hlo : off < g.fin := by
          rcases Nat.lt_or_ge off g.fin with l | l
          · exact l
          · rw [k2.free off l] at h; cases h
        have := inv.mem g.b off v h
        simp only [World.cell?, hc, hrow, Option.isSome_none, Bool.false_eq_true, if_false, List.getElem?_toArray] at this ⊢
        rw [List.getElem?_append_left (by simp; omega), List.getElem?_append_left (by simp; omega), List.getElem?_take, if_pos hlo]
        simpa using this
      · rw [cell_congr (hoth b qb)]; exact inv.mem b off v h
  · intro o b h off
    simp only [G']
    rw [if_neg]
    · exact inv.away o b h off
    · rintro ⟨rfl, _⟩; exact inv.tipobj t g o hg h
  · intro i gi h
    simp only [G'] at h
    by_cases q : i = t
    · subst q; rw [if_pos rfl] at h; cases h
      refine ⟨?_, ⟨⟨_, _, hrow, ?_⟩, hfit, ?_, k2.lent⟩⟩
      · have := (List.getElem?_eq_some_iff.1 k1).1
        simp [this]
      · simp; omega
      · intro off l
        simp only [G'] at l ⊢
        rw [if_neg (by rintro ⟨_, _, q⟩; omega)]
        exact k2.free off (by omega)
    · rw [if_neg q] at h
      obtain ⟨q1, q2⟩ := inv.tip i gi h
      have hne : gi.b ≠ g.b := fun hh => q (inv.tiptip i gi t g h hg hh)
      refine ⟨by rw [List.getElem?_set_ne (Ne.symm q)]; exact q1, ⟨?_, q2.fin, ?_, q2.lent⟩⟩
      · obtain ⟨c2, e2, q3, q4⟩ := q2.row
        exact ⟨c2, e2, by rw [hoth _ hne]; exact q3, q4⟩
      · intro off l
        simp only [G']
        rw [if_neg (by rintro ⟨q, _⟩; exact hne q)]
        exact q2.free off l
  · intro i gi o h h'
    simp only [G'] at h
    by_cases q : i = t
    · rw [if_pos q] at h; cases h; exact inv.tipobj t g o hg h'
    · rw [if_neg q] at h; exact inv.tipobj i gi o h h'
  · intro i gi j gj h h' hb
    simp only [G'] at h h'
    by_cases q : i = t <;> by_cases q' : j = t
    · omega
    · rw [if_pos q] at h; cases h; rw [if_neg q'] at h'
      exact q.trans (inv.tiptip t g j gj hg h' hb)
    · rw [if_pos q'] at h'; cases h'; rw [if_neg q] at h
      exact (inv.tiptip i gi t g h hg hb).trans q'.symm
    · rw [if_neg q] at h; rw [if_neg q'] at h'; exact inv.tiptip i gi j gj h h' hb
  · intro v r h
    obtain ⟨u, k⟩ := inv.pan v r h
    exact ⟨u, Rel.mono hm _ _ k⟩
  · intro o b c el f h hc'
    rw [hoth b fun q => inv.tipobj t g o hg (by rw [← q]; exact h)] at hc'
    exact inv.room _ _ _ _ _ h hc'
  · intro b l n
    exact hoth b fun q => n (.inr ⟨t, g, hg, q.symm⟩)
  · intro b l h
    rcases h with ⟨o, h⟩ | ⟨i, gi, h, q⟩
    · exact .inl ⟨o, h⟩
    · simp only [G'] at h
      by_cases q' : i = t
      · rw [if_pos q'] at h; cases h; exact .inr ⟨t, g, hg, q⟩
      · rw [if_neg q'] at h; exact .inr ⟨i, gi, h, q⟩

end
end Go.Sac
