/- How the relations outlast what an operation does to memory. -/
import Derived.Test.YtippafigppeblaaGreatSacB
import Derived.Laws.Rows
import Derived.WalkKit
namespace Go.Sac
set_option linter.unusedVariables false
set_option linter.unusedSimpArgs false
open Go

theorem ObjAt.congr {G : Gh} {w w' : World} {x : AObj} {b : Nat} (h : w'.heap[b]? = w.heap[b]?) (k : ObjAt G w x b) : ObjAt G w' x b := by
  cases x <;> simp only [ObjAt, h] at k ⊢ <;> exact k

theorem RelE.mono {G G' : Gh} (h : Mono G G') : ∀ {es : List (AV × AV × Nat)} {ms : List MapEntry}, RelE G es ms → RelE G' es ms
  | [], _, k => k
  | e :: es, _, k => by
    obtain ⟨m, ms, rfl, a, b, c, d⟩ := k
    exact ⟨m, ms, rfl, Rel.mono h _ _ a, Rel.mono h _ _ b, c, RelE.mono h d⟩

theorem RelT.mono {G G' : Gh} (h : Mono G G') {t : Nat → AV} {tmps : Array Value} (k : RelT G t tmps) : RelT G' t tmps := fun i => Rel.mono h _ _ (k i)

theorem LoopAt.mono {G G' : Gh} (h : Mono G G') {l : ALoop} {L : Loop} (k : LoopAt G l L) : LoopAt G' l L :=
  { k with env := k.env.mono h, defers := k.defers.elim (fun e => h.obj _ _ e) fun e => .inr (h.dead _ e) }

theorem ObjAt.mono {G G' : Gh} (h : Mono G G') {w : World} {x : AObj} {b : Nat} (k : ObjAt G w x b) : ObjAt G' w x b := by
  cases x with
  | cells cs => obtain ⟨vs, rest, e, q, r, s⟩ := k; exact ⟨vs, rest, e, q, RelL.mono h _ _ r, s⟩
  | map es c => obtain ⟨ms, q, r⟩ := k; exact ⟨ms, q, r.mono h⟩
  | loop l => obtain ⟨L, q, r⟩ := k; exact ⟨L, q, r.mono h⟩
  | dfr t => exact k
  | iter m since seen last =>
    obtain ⟨mb, q, r⟩ := k
    refine ⟨mb, q, ?_⟩
    rcases r with r | ⟨o, c, r1, r2, r3⟩
    · exact .inl r
    · refine .inr ⟨o, c, r1, r2, ?_⟩
      rcases r3 with r3 | r3
      · exact h.obj _ _ r3
      · exact .inr (h.dead _ r3)
  | dead => exact k

theorem cell_congr {w w' : World} {b off : Nat} (h : w'.heap[b]? = w.heap[b]?) : w'.cell? ⟨b, off, none⟩ = w.cell? ⟨b, off, none⟩ := by
  simp only [World.cell?, h]

theorem Inv.lt {G : Gh} {S : St} {w : World} (h : Inv G S w) {o b : Nat} (e : G.obj o = .at b) : b < w.heap.size := by
  obtain ⟨x, _, k⟩ := h.obj o b e
  rcases Nat.lt_or_ge b w.heap.size with l | l
  · exact l
  · have : w.heap[b]? = none := Array.getElem?_eq_none l
    cases x <;> simp [ObjAt, this] at k

theorem Inv.mem_lt {G : Gh} {S : St} {w : World} (h : Inv G S w) {b off : Nat} {v : Value} (e : G.mem b off = some v) : b < w.heap.size :=
  block_lt_of_cell (h.mem b off v e)

theorem Inv.tip_lt {G : Gh} {S : St} {w : World} (h : Inv G S w) {t : Nat} {g : TipG} (e : G.tip t = some g) : g.b < w.heap.size := by
  obtain ⟨c, el, q, _⟩ := (h.tip t g e).2.row
  rcases Nat.lt_or_ge g.b w.heap.size with l | l
  · exact l
  · rw [Array.getElem?_eq_none l] at q; cases q

theorem Inv.owned_lt {G : Gh} {S : St} {w : World} (h : Inv G S w) {b : Nat} (e : Owned G b) : b < w.heap.size := by
  rcases e with ⟨o, e⟩ | ⟨t, g, e, rfl⟩
  · exact h.lt e
  · exact h.tip_lt e

/-- An object turns: its block alone is another. -/
theorem Inv.turn {G : Gh} {S : St} {w w' : World} (h : Inv G S w) {o b : Nat} (e : G.obj o = .at b) (x : AObj) (hs : w'.heap.size = w.heap.size)
    (hb : ∀ c, c ≠ b → w'.heap[c]? = w.heap[c]?) (k : ObjAt G w' x b) (hroom : ∀ c e f, w'.heap[b]? = some (.cells c e f) → ∃ c0 e0 f0, w.heap[b]? = some (.cells c0 e0 f0) ∧ c.size = c0.size) (ho : w'.os = w.os) (ht : w'.tape = w.tape) (hu : w'.output = w.output) :
    Inv G (S.setObj o x) w' ∧ Step G S w G (S.setObj o x) w' := by
  have hlen : o < S.objs.length := by
    rcases Nat.lt_or_ge o S.objs.length with l | l
    · exact l
    · rw [h.beyond o l] at e; cases e
  refine ⟨⟨?_, ?_, h.inj, ?_, ?_, h.away, ?_, h.tipobj, h.tiptip, h.pan, ?_, fun b l => by rw [hs]; exact h.lentlt b l⟩, { Mono.refl G with un := ?_, len := ?_, heap := ?_, size := ?_, old := fun _ _ _ _ => rfl, own := fun _ _ h => h, os := ho, tape := ht, output := hu }⟩
  · intro o' b' e'
    by_cases q : o' = o
    · subst q
      have : b' = b := by rw [e] at e'; cases e'; rfl
      subst this
      exact ⟨x, by simp [St.setObj, hlen], k⟩
    · obtain ⟨y, q1, q2⟩ := h.obj o' b' e'
      refine ⟨y, ?_, q2.congr (hb b' fun c => ?_)⟩
      · simp only [St.setObj]; rw [List.getElem?_set_ne (by omega)]; exact q1
      · subst c; exact q (h.inj _ _ _ e' e)
  · intro o' e'
    simp only [St.setObj]
    rw [List.getElem?_set_ne]
    · exact h.dead o' e'
    · intro q; subst q; rw [e] at e'; cases e'
  · intro o' l; exact h.beyond o' (by simpa [St.setObj] using l)
  · intro b' off v e'
    rw [cell_congr (hb b' fun c => ?_)]
    · exact h.mem b' off v e'
    · subst c; rw [h.away o b' e off] at e'; cases e'
  · intro t g e'
    obtain ⟨q1, q2⟩ := h.tip t g e'
    refine ⟨q1, ⟨?_, q2.fin, q2.free, q2.lent⟩⟩
    obtain ⟨c, el, q3, q4⟩ := q2.row
    refine ⟨c, el, ?_, q4⟩
    rw [hb g.b fun c => h.tipobj t g o e' (by rw [c]; exact e)]
    exact q3
  · intro o' b' c el f e' hc
    by_cases q : b' = b
    · subst q
      have : o' = o := h.inj _ _ _ e' e
      subst this
      obtain ⟨c0, e0, f0, h0, hsz⟩ := hroom c el f hc
      rw [hsz]; exact h.room _ _ _ _ _ e h0
    · rw [hb b' q] at hc; exact h.room _ _ _ _ _ e' hc
  · intro o' l e'
    refine ⟨e', ?_⟩
    simp only [St.setObj]
    rw [List.getElem?_set_ne]
    intro q; subst q; rw [e] at e'; cases e'
  · simp [St.setObj]
  · intro b' l n
    exact hb b' fun c => n (.inl ⟨o, c ▸ e⟩)
  · omega

def Gh.newObj (G : Gh) (o b n : Nat) : Gh := { G with obj := fun i => if i = o then .at b else G.obj i, room := fun i => if i = o then n else G.room i }

theorem Mono.newObj {G : Gh} {o b n : Nat} (h : G.obj o = .un) : Mono G (G.newObj o b n) := by
  refine ⟨fun i c e => .inl ?_, fun i e => ?_, fun t g e => ⟨g, e, Nat.le_refl _, fun _ => rfl⟩, fun _ _ _ e => e, fun i c e => ?_, fun i e => ?_, fun _ => rfl⟩
  · simp only [Gh.newObj]; rw [if_neg]; · exact e
    intro q; subst q; rw [h] at e; cases e
  · simp only [Gh.newObj]; rw [if_neg]; · exact e
    intro q; subst q; rw [h] at e; cases e
  · simp only [Gh.newObj]; rw [if_neg]
    intro q; subst q; rw [h] at e; cases e
  · simp only [Gh.newObj]; rw [if_neg]
    intro q; subst q; rw [h] at e; cases e

/-- A new object, in a new block. -/
theorem Inv.push {G : Gh} {S : St} {w w' : World} (h : Inv G S w) (x : AObj) (n : Nat) (hs : w'.heap.size = w.heap.size + 1)
    (hb : ∀ c, c < w.heap.size → w'.heap[c]? = w.heap[c]?) (k : ObjAt (G.newObj S.objs.length w.heap.size n) w' x w.heap.size) (hr : ∀ c e f, w'.heap[w.heap.size]? = some (.cells c e f) → c.size = n) (ho : w'.os = w.os) (ht : w'.tape = w.tape) (hu : w'.output = w.output) :
    Inv (G.newObj S.objs.length w.heap.size n) (S.push x) w' ∧ Step G S w (G.newObj S.objs.length w.heap.size n) (S.push x) w' := by
  have hm : Mono G (G.newObj S.objs.length w.heap.size n) := Mono.newObj (h.beyond _ (Nat.le_refl _))
  have hn : ∀ o, o ≠ S.objs.length → (G.newObj S.objs.length w.heap.size n).obj o = G.obj o := fun o q => by simp only [Gh.newObj]; rw [if_neg q]
  have hq : (G.newObj S.objs.length w.heap.size n).obj S.objs.length = .at w.heap.size := by simp [Gh.newObj]
  refine ⟨⟨?_, ?_, ?_, ?_, ?_, ?_, ?_, ?_, h.tiptip, ?_, ?_, fun b l => by have := h.lentlt b l; omega⟩, { hm with un := ?_, len := ?_, heap := ?_, size := ?_, old := fun _ _ _ _ => rfl, own := ?_, os := ho, tape := ht, output := hu }⟩
  · intro o b e
    by_cases q : o = S.objs.length
    · subst q
      rw [hq] at e; cases e
      exact ⟨x, by simp [St.push], k⟩
    · rw [hn o q] at e
      obtain ⟨y, q1, q2⟩ := h.obj o b e
      refine ⟨y, ?_, (q2.mono hm).congr (hb b (h.lt e))⟩
      simp only [St.push]
      rw [List.getElem?_append_left]
      · exact q1
      · rcases Nat.lt_or_ge o S.objs.length with l | l
        · exact l
        · rw [h.beyond o l] at e; cases e
  · intro o e
    by_cases q : o = S.objs.length
    · subst q; rw [hq] at e; cases e
    · rw [hn o q] at e
      have := h.dead o e
      simp only [St.push]
      rw [List.getElem?_append_left (List.getElem?_eq_some_iff.1 this).1]
      exact this
  · intro o o' b e e'
    by_cases q : o = S.objs.length <;> by_cases q' : o' = S.objs.length
    · omega
    · subst q; rw [hq] at e; cases e; rw [hn _ q'] at e'; have := h.lt e'; omega
    · subst q'; rw [hq] at e'; cases e'; rw [hn _ q] at e; have := h.lt e; omega
    · rw [hn _ q] at e; rw [hn _ q'] at e'; exact h.inj _ _ _ e e'
  · intro o l
    simp [St.push] at l
    rw [hn o (by omega)]; exact h.beyond o (by omega)
  · intro b off v e
    rw [cell_congr (hb b (h.mem_lt e))]; exact h.mem b off v e
  · intro o b e off
    by_cases q : o = S.objs.length
    · subst q; rw [hq] at e; cases e
      cases hh : G.mem w.heap.size off with
      | none => exact hh
      | some v => have := h.mem_lt hh; omega
    · rw [hn o q] at e; exact h.away o b e off
  · intro t g e
    obtain ⟨q1, q2⟩ := h.tip t g e
    refine ⟨q1, ⟨?_, q2.fin, q2.free, q2.lent⟩⟩
    obtain ⟨c, el, q3, q4⟩ := q2.row
    exact ⟨c, el, by rw [hb g.b (h.tip_lt e)]; exact q3, q4⟩
  · intro t g o e e'
    by_cases q : o = S.objs.length
    · subst q; rw [hq] at e'; injection e' with e'; have := h.tip_lt (show G.tip t = some g from e); omega
    · rw [hn o q] at e'; exact h.tipobj t g o e e'
  · intro v r e
    obtain ⟨u, k⟩ := h.pan v r e
    exact ⟨u, Rel.mono hm _ _ k⟩
  · intro o b c el f e hc
    by_cases q : o = S.objs.length
    · subst q; rw [hq] at e; cases e
      simp only [Gh.newObj, if_pos]; exact hr c el f hc
    · rw [hn o q] at e
      rw [hb b (h.lt e)] at hc
      simp only [Gh.newObj, if_neg q]; exact h.room _ _ _ _ _ e hc
  · intro o l e
    refine ⟨by rw [hn o (by omega)]; exact e, ?_⟩
    simp only [St.push]
    rw [List.getElem?_append_left l]
  · simp [St.push]
  · intro b l _; exact hb b l
  · omega
  · intro b l e
    rcases e with ⟨o, e⟩ | ⟨t, g, e, q⟩
    · by_cases q : o = S.objs.length
      · subst q; rw [hq] at e; injection e with e; omega
      · rw [hn o q] at e; exact .inl ⟨o, e⟩
    · exact .inr ⟨t, g, e, q⟩

def Gh.newMem (G : Gh) (b : Nat) (f : Nat → Option Value) : Gh := { G with mem := fun c off => if c = b then f off else G.mem c off }

/-- A new block of cells that never turn. -/
theorem Inv.fresh {G : Gh} {S : St} {w w' : World} (h : Inv G S w) (f : Nat → Option Value) (hs : w'.heap.size = w.heap.size + 1)
    (hb : ∀ c, c < w.heap.size → w'.heap[c]? = w.heap[c]?) (k : ∀ off v, f off = some v → w'.cell? ⟨w.heap.size, off, none⟩ = some v) (ho : w'.os = w.os) (ht : w'.tape = w.tape) (hu : w'.output = w.output) :
    Inv (G.newMem w.heap.size f) S w' ∧ Step G S w (G.newMem w.heap.size f) S w' := by
  have hno : ∀ off v, G.mem w.heap.size off = some v → False := fun off v e => by have := h.mem_lt e; omega
  have hm : Mono G (G.newMem w.heap.size f) := ⟨fun _ _ e => .inl e, fun _ e => e, fun t g e => ⟨g, e, Nat.le_refl _, fun _ => rfl⟩, fun b off v e => by
    simp only [Gh.newMem]; rw [if_neg]; · exact e
    intro q; subst q; exact hno _ _ e, fun _ _ _ => rfl, fun _ _ => rfl, fun _ => rfl⟩
  refine ⟨⟨?_, h.dead, h.inj, h.beyond, ?_, ?_, ?_, h.tipobj, h.tiptip, ?_, ?_, fun b l => by have := h.lentlt b l; omega⟩, { hm with un := fun _ _ e => ⟨e, rfl⟩, len := Nat.le_refl _, heap := fun b l _ => hb b l, size := by omega, old := fun b l _ off => (by simp only [Gh.newMem]; rw [if_neg (by omega)]), own := fun _ _ e => e, os := ho, tape := ht, output := hu }⟩
  · intro o b e
    obtain ⟨y, q1, q2⟩ := h.obj o b e
    exact ⟨y, q1, (q2.mono hm).congr (hb b (h.lt e))⟩
  · intro b off v e
    simp only [Gh.newMem] at e
    split at e
    · rename_i q; subst q; exact k off v e
    · rw [cell_congr (hb b (h.mem_lt e))]; exact h.mem b off v e
  · intro o b e off
    simp only [Gh.newMem]; rw [if_neg]
    · exact h.away o b e off
    · intro q; subst q; have := h.lt (show G.obj o = .at w.heap.size from e); omega
  · intro t g e
    obtain ⟨q1, q2⟩ := h.tip t g e
    refine ⟨q1, ⟨?_, q2.fin, ?_, q2.lent⟩⟩
    · obtain ⟨c, el, q3, q4⟩ := q2.row
      exact ⟨c, el, by rw [hb g.b (h.tip_lt e)]; exact q3, q4⟩
    · intro off l
      simp only [Gh.newMem]; rw [if_neg]
      · exact q2.free off l
      · intro q; have := h.tip_lt (show G.tip t = some g from e); omega
  · intro v r e
    obtain ⟨u, k⟩ := h.pan v r e
    exact ⟨u, Rel.mono hm _ _ k⟩
  · intro o b c el f e hc
    rw [hb b (h.lt e)] at hc
    exact h.room _ _ _ _ _ e hc

end Go.Sac
