/- Abstract values and states against the model's: the relations, and how they last. -/
import Derived.Test.YtippafigppeblaaGreatSacA
import Derived.RowKit3
namespace Go.Sac
set_option linter.unusedVariables false
set_option linter.unusedSimpArgs false

inductive GO where
  | un | at (b : Nat) | dead

/-- Where the end of a growing slice is. -/
structure TipG where
  b : Nat
  fin : Nat
  cap : Nat
  len : Nat

/-- Where abstract objects lie, and which cells never turn again. -/
structure Gh where
  obj : Nat → GO
  tip : Nat → Option TipG
  mem : Nat → Nat → Option Value
  /-- how many cells an object's block has -/
  room : Nat → Nat
  /-- blocks that a call which runs apart was lent -/
  lent : Nat → Bool

def TipOk (G : Gh) : Tip → Option Addr → Nat → Nat → Nat → Prop
  | .nil, a, _, cap, _ => a = none ∧ cap = 0
  | .exact, _, len, cap, _ => cap = len
  | .nn, a, _, _, _ => a ≠ none
  | .opn t pos, a, len, cap, sz => ∃ g, G.tip t = some g ∧ pos ≤ g.len ∧ (pos = g.len → ∃ x, a = some x ∧ x.block = g.b ∧ x.off + len * sz = g.fin ∧ x.off + cap * sz = g.cap)
  | _, _, _, _, _ => True

mutual
def Rel (G : Gh) : AV → Value → Prop
  | .bool b, v => v = .bool b
  | .int k n, v => v = .int k n
  | .str s, v => v = .string ⟨s.toArray⟩
  | .ptr o off, v => match G.obj o with
    | .at b => v = .pointer (some ⟨b, off, none⟩)
    | .dead => ∃ a, v = .pointer (some a) ∧ a.spot = none
    | .un => False
  | .nilptr, v => v = .pointer none
  | .eptr row off, v => ∃ b base, v = .pointer (some ⟨b, base + off, none⟩) ∧ CellsAt G row b base
  | .lst st sz rows, v => ∃ a cap, v = .slice a rows.length cap ∧ rows.length ≤ cap ∧ TipOk G st a rows.length cap sz ∧
      ((rows = [] ∧ ∀ x, a = some x → x.spot = none) ∨ ∃ b off, a = some ⟨b, off, none⟩ ∧ RowsAt G sz rows b off ∧ (st = .lent ∨ G.lent b = false))
  | .sl o off len cap sz, v => match G.obj o with
    | .at b => ∃ c, v = .slice (some ⟨b, off, none⟩) len c ∧ len ≤ c ∧ (∀ k, cap = some k → c = k) ∧ (cap = none → off = 0 ∧ c * sz = G.room o)
    | .dead => ∃ a c, v = .slice (some a) len c ∧ len ≤ c ∧ a.spot = none
    | .un => False
  | .map o, v => match G.obj o with
    | .at b => v = .map (some b)
    | .dead => ∃ b, v = .map (some b)
    | .un => False
  | .nilmap, v => v = .map none
  | .func f a c, v => ∃ a' c', v = .func (.func f) a' c' ∧ RelL G a a'.toList ∧ RelL G c c'.toList
  | .yld o, v => match G.obj o with
    | .at b => v = .func (.yield b) #[] #[]
    | .dead => ∃ b, v = .func (.yield b) #[] #[]
    | .un => False
  | .nilfunc, v => v = .nilFunc
  | .iface t x, v => ∃ u, v = .iface t u ∧ Rel G x u
  | .niliface, v => v = .nilIface
  | .agg cs, v => ∃ vs, v = .agg vs ∧ RelL G cs vs.toList
  | .tup cs, v => ∃ vs, v = .tuple vs ∧ RelL G cs vs.toList
  | .junk, _ => True
def RelL (G : Gh) : List AV → List Value → Prop
  | [], l => l = []
  | a :: as, l => ∃ v vs, l = v :: vs ∧ Rel G a v ∧ RelL G as vs
def CellsAt (G : Gh) : List AV → Nat → Nat → Prop
  | [], _, _ => True
  | c :: cs, b, off => (∃ v, G.mem b off = some v ∧ Rel G c v ∧ scal c = true) ∧ CellsAt G cs b (off + 1)
def RowsAt (G : Gh) (sz : Nat) : List AV → Nat → Nat → Prop
  | [], _, _ => True
  | .agg cs :: rs, b, off => cs.length = sz ∧ CellsAt G cs b off ∧ RowsAt G sz rs b (off + sz)
  | _ :: _, _, _ => False
end

/-- What has become of a relation: objects stay or die, the ends of slices grow, cells stay. -/
structure Mono (G G' : Gh) : Prop where
  obj : ∀ o b, G.obj o = .at b → G'.obj o = .at b ∨ G'.obj o = .dead
  dead : ∀ o, G.obj o = .dead → G'.obj o = .dead
  tip : ∀ t g, G.tip t = some g → ∃ g', G'.tip t = some g' ∧ g.len ≤ g'.len ∧ (g'.len = g.len → g' = g)
  mem : ∀ b off v, G.mem b off = some v → G'.mem b off = some v
  room : ∀ o b, G.obj o = .at b → G'.room o = G.room o
  room' : ∀ o, G.obj o = .dead → G'.room o = G.room o
  lent : ∀ b, G'.lent b = G.lent b

theorem Mono.refl (G : Gh) : Mono G G := ⟨fun _ _ h => .inl h, fun _ h => h, fun _ g h => ⟨g, h, Nat.le_refl _, fun _ => rfl⟩, fun _ _ _ h => h, fun _ _ _ => rfl, fun _ _ => rfl, fun _ => rfl⟩

theorem Mono.trans {A B C : Gh} (h : Mono A B) (k : Mono B C) : Mono A C where
  obj o b e := (h.obj o b e).elim (fun e => k.obj o b e) fun e => .inr (k.dead o e)
  dead o e := k.dead o (h.dead o e)
  tip t g e := by
    obtain ⟨g', e', l', q'⟩ := h.tip t g e
    obtain ⟨g2, e2, l2, q2⟩ := k.tip t g' e'
    refine ⟨g2, e2, by omega, fun q => ?_⟩
    have : g' = g := q' (by omega)
    subst this
    exact q2 q
  mem b off v e := k.mem b off v (h.mem b off v e)
  room o b e := by
    rcases h.obj o b e with q | q
    · rw [k.room o b q, h.room o b e]
    · rw [k.room' o q, h.room o b e]
  room' o e := by rw [k.room' o (h.dead o e), h.room' o e]
  lent b := by rw [k.lent b, h.lent b]

theorem TipOk.mono {G G' : Gh} (h : Mono G G') : ∀ {st : Tip} {a : Option Addr} {len cap sz : Nat}, TipOk G st a len cap sz → TipOk G' st a len cap sz
  | .nil, _, _, _, _, k => k
  | .exact, _, _, _, _, k => k
  | .nn, _, _, _, _, k => k
  | .unk, _, _, _, _, k => trivial
  | .lent, _, _, _, _, k => trivial
  | .opn t pos, a, len, cap, sz, k => by
    obtain ⟨g, e, l, q⟩ := k
    obtain ⟨g', e', l', q'⟩ := h.tip t g e
    refine ⟨g', e', by omega, fun hp => ?_⟩
    have : g' = g := q' (by omega)
    subst this
    exact q hp

mutual
theorem Rel.mono {G G' : Gh} (h : Mono G G') : ∀ (a : AV) (v : Value), Rel G a v → Rel G' a v
  | .bool b, v, k => by simpa [Rel] using k
  | .int _ n, v, k => by simpa [Rel] using k
  | .str s, v, k => by simpa [Rel] using k
  | .ptr o off, v, k => by
    simp only [Rel] at k ⊢
    split at k
    · rename_i b e
      rcases h.obj o b e with e' | e' <;> simp only [e']
      · exact k
      · exact ⟨_, k, rfl⟩
    · rename_i e
      simp only [h.dead o e]; exact k
    · exact k.elim
  | .nilptr, v, k => by simpa [Rel] using k
  | .eptr row off, v, k => by
    simp only [Rel] at k ⊢
    obtain ⟨b, base, rfl, k⟩ := k
    exact ⟨b, base, rfl, CellsAt.mono h row b base k⟩
  | .lst st sz rows, v, k => by
    simp only [Rel] at k ⊢
    obtain ⟨a, cap, rfl, l, t, k⟩ := k
    refine ⟨a, cap, rfl, l, t.mono h, ?_⟩
    rcases k with k | ⟨b, off, rfl, k, kl⟩
    · exact .inl k
    · exact .inr ⟨b, off, rfl, RowsAt.mono h sz rows b off k, by rw [h.lent b]; exact kl⟩
  | .sl o off len cap _, v, k => by
    simp only [Rel] at k ⊢
    split at k
    · rename_i b e
      rcases h.obj o b e with e' | e' <;> simp only [e']
      · rw [h.room o b e]; exact k
      · obtain ⟨c, rfl, l, _⟩ := k; exact ⟨_, _, rfl, l, rfl⟩
    · rename_i e
      simp only [h.dead o e]; exact k
    · exact k.elim
  | .map o, v, k => by
    simp only [Rel] at k ⊢
    split at k
    · rename_i b e
      rcases h.obj o b e with e' | e' <;> simp only [e']
      · exact k
      · exact ⟨_, k⟩
    · rename_i e
      simp only [h.dead o e]; exact k
    · exact k.elim
  | .nilmap, v, k => by simpa [Rel] using k
  | .func f a c, v, k => by
    simp only [Rel] at k ⊢
    obtain ⟨a', c', rfl, ka, kc⟩ := k
    exact ⟨a', c', rfl, RelL.mono h a _ ka, RelL.mono h c _ kc⟩
  | .yld o, v, k => by
    simp only [Rel] at k ⊢
    split at k
    · rename_i b e
      rcases h.obj o b e with e' | e' <;> simp only [e']
      · exact k
      · exact ⟨_, k⟩
    · rename_i e
      simp only [h.dead o e]; exact k
    · exact k.elim
  | .nilfunc, v, k => by simpa [Rel] using k
  | .iface t x, v, k => by
    simp only [Rel] at k ⊢
    obtain ⟨u, rfl, k⟩ := k
    exact ⟨u, rfl, Rel.mono h x u k⟩
  | .niliface, v, k => by simpa [Rel] using k
  | .agg cs, v, k => by
    simp only [Rel] at k ⊢
    obtain ⟨vs, rfl, k⟩ := k
    exact ⟨vs, rfl, RelL.mono h cs _ k⟩
  | .tup cs, v, k => by
    simp only [Rel] at k ⊢
    obtain ⟨vs, rfl, k⟩ := k
    exact ⟨vs, rfl, RelL.mono h cs _ k⟩
  | .junk, v, k => by simp [Rel]
theorem RelL.mono {G G' : Gh} (h : Mono G G') : ∀ (a : List AV) (v : List Value), RelL G a v → RelL G' a v
  | [], v, k => by simpa [RelL] using k
  | a :: as, v, k => by
    simp only [RelL] at k ⊢
    obtain ⟨x, xs, rfl, k, ks⟩ := k
    exact ⟨x, xs, rfl, Rel.mono h a x k, RelL.mono h as xs ks⟩
theorem CellsAt.mono {G G' : Gh} (h : Mono G G') : ∀ (a : List AV) (b off : Nat), CellsAt G a b off → CellsAt G' a b off
  | [], b, off, k => by simp [CellsAt]
  | c :: cs, b, off, k => by
    simp only [CellsAt] at k ⊢
    obtain ⟨⟨v, e, k, s⟩, ks⟩ := k
    exact ⟨⟨v, h.mem _ _ _ e, Rel.mono h c v k, s⟩, CellsAt.mono h cs b _ ks⟩
theorem RowsAt.mono {G G' : Gh} (h : Mono G G') (sz : Nat) : ∀ (a : List AV) (b off : Nat), RowsAt G sz a b off → RowsAt G' sz a b off
  | [], b, off, k => by simp [RowsAt]
  | .agg cs :: rs, b, off, k => by
    simp only [RowsAt] at k ⊢
    exact ⟨k.1, CellsAt.mono h cs b off k.2.1, RowsAt.mono h sz rs b _ k.2.2⟩
  | .bool _ :: _, _, _, k | .int .. :: _, _, _, k | .str _ :: _, _, _, k | .ptr .. :: _, _, _, k | .nilptr :: _, _, _, k | .eptr .. :: _, _, _, k | .lst .. :: _, _, _, k
  | .sl .. :: _, _, _, k | .map _ :: _, _, _, k | .nilmap :: _, _, _, k | .func .. :: _, _, _, k | .yld _ :: _, _, _, k | .nilfunc :: _, _, _, k | .iface .. :: _, _, _, k
  | .niliface :: _, _, _, k | .tup _ :: _, _, _, k | .junk :: _, _, _, k => by simp [RowsAt] at k
end

theorem RelL.length {G : Gh} : ∀ {a : List AV} {v : List Value}, RelL G a v → a.length = v.length
  | [], _, k => by simp only [RelL] at k; subst k; rfl
  | _ :: as, _, k => by
    simp only [RelL] at k
    obtain ⟨x, xs, rfl, _, ks⟩ := k
    simp [RelL.length ks]

theorem RelL.get {G : Gh} : ∀ {a : List AV} {v : List Value} {i : Nat} {x : AV}, RelL G a v → a[i]? = some x → ∃ y, v[i]? = some y ∧ Rel G x y
  | [], _, _, _, _, h => by simp at h
  | a :: as, _, 0, x, k, h => by
    simp only [RelL] at k
    obtain ⟨y, ys, rfl, ky, ks⟩ := k
    simp at h; subst h
    exact ⟨y, by simp, ky⟩
  | a :: as, _, i + 1, x, k, h => by
    simp only [RelL] at k
    obtain ⟨y, ys, rfl, ky, ks⟩ := k
    simp at h
    obtain ⟨z, hz, hr⟩ := RelL.get ks h
    exact ⟨z, by simpa using hz, hr⟩

theorem RelL.append {G : Gh} : ∀ {a b : List AV} {v u : List Value}, RelL G a v → RelL G b u → RelL G (a ++ b) (v ++ u)
  | [], _, _, _, k, k' => by simp only [RelL] at k; subst k; simpa using k'
  | a :: as, _, _, _, k, k' => by
    simp only [RelL] at k
    obtain ⟨y, ys, rfl, ky, ks⟩ := k
    exact ⟨y, _, by simp, ky, RelL.append ks k'⟩

theorem RelL.drop {G : Gh} : ∀ {a : List AV} {v : List Value} (n : Nat), RelL G a v → RelL G (a.drop n) (v.drop n)
  | [], _, n, k => by simp only [RelL] at k; subst k; simp [RelL]
  | a :: as, _, 0, k => by simpa using k
  | a :: as, _, n + 1, k => by
    simp only [RelL] at k
    obtain ⟨y, ys, rfl, ky, ks⟩ := k
    simpa using RelL.drop n ks

theorem RelL.take {G : Gh} : ∀ {a : List AV} {v : List Value} (n : Nat), RelL G a v → RelL G (a.take n) (v.take n)
  | [], _, n, k => by simp only [RelL] at k; subst k; simp [RelL]
  | a :: as, _, 0, k => by simp [RelL]
  | a :: as, _, n + 1, k => by
    simp only [RelL] at k
    obtain ⟨y, ys, rfl, ky, ks⟩ := k
    exact ⟨y, _, by simp, ky, RelL.take n ks⟩

theorem RelL.set {G : Gh} : ∀ {a : List AV} {v : List Value} (n : Nat) {x : AV} {y : Value}, RelL G a v → Rel G x y → RelL G (a.set n x) (v.set n y)
  | [], _, n, _, _, k, _ => by simp only [RelL] at k; subst k; simp [RelL]
  | a :: as, _, 0, x, y, k, r => by
    simp only [RelL] at k
    obtain ⟨y, ys, rfl, ky, ks⟩ := k
    exact ⟨_, _, by simp, r, ks⟩
  | a :: as, _, n + 1, x, y, k, r => by
    simp only [RelL] at k
    obtain ⟨z, zs, rfl, ky, ks⟩ := k
    exact ⟨z, _, by simp, ky, RelL.set n ks r⟩

def Owned (G : Gh) (b : Nat) : Prop := (∃ o, G.obj o = .at b) ∨ ∃ t g, G.tip t = some g ∧ g.b = b

def RelE (G : Gh) : List (AV × AV × Nat) → List MapEntry → Prop
  | [], l => l = []
  | e :: es, l => ∃ m ms, l = m :: ms ∧ Rel G e.1 m.key ∧ Rel G e.2.1 m.val ∧ m.born = e.2.2 ∧ RelE G es ms

/-- The frame's slots. -/
def RelT (G : Gh) (t : Nat → AV) (tmps : Array Value) : Prop := ∀ i, Rel G (t i) (tmps.getD i undef)

structure LoopAt (G : Gh) (l : ALoop) (L : Loop) : Prop where
  state : L.state = l.state
  pend : L.pending = l.pend
  fn : L.fn = l.fn
  env : RelT G l.env L.tmps
  params : L.params.toList = l.params
  assign : L.assign = l.assign
  body : L.body = l.body
  defers : G.obj l.defers = .at L.defers ∨ G.obj l.defers = .dead
  fits : ∀ d, d ∈ l.params ++ writes l.assign ++ writes l.body → d < L.tmps.size

def ObjAt (G : Gh) (w : World) : AObj → Nat → Prop
  | .cells cs, b => ∃ vs rest e, w.heap[b]? = some (.cells (vs ++ rest).toArray e (0, 0)) ∧ RelL G cs vs ∧ cs.all scal = true
  | .map es k, b => ∃ ms, w.heap[b]? = some (.map ms k) ∧ RelE G es ms.toList
  | .loop l, b => ∃ L, w.heap[b]? = some (.loop L) ∧ LoopAt G l L
  | .dfr t, b => w.heap[b]? = some (.deferred (if t then none else some []))
  | .iter m since seen last, b => ∃ mb, w.heap[b]? = some (.mapIter mb since seen.toArray last) ∧ ((m = none ∧ mb = none) ∨ ∃ o c, m = some o ∧ mb = some c ∧ (G.obj o = .at c ∨ G.obj o = .dead))
  | .dead, _ => False

structure TipAt (G : Gh) (w : World) (g : TipG) : Prop where
  row : ∃ c e, w.heap[g.b]? = some (.cells c e (0, 0)) ∧ g.cap ≤ c.size
  fin : g.fin ≤ g.cap
  free : ∀ off, g.fin ≤ off → G.mem g.b off = none
  lent : G.lent g.b = false

structure Inv (G : Gh) (S : St) (w : World) : Prop where
  obj : ∀ o b, G.obj o = .at b → ∃ x, S.objs[o]? = some x ∧ ObjAt G w x b
  dead : ∀ o, G.obj o = .dead → S.objs[o]? = some .dead
  inj : ∀ o o' b, G.obj o = .at b → G.obj o' = .at b → o = o'
  beyond : ∀ o, S.objs.length ≤ o → G.obj o = .un
  mem : ∀ b off v, G.mem b off = some v → w.cell? ⟨b, off, none⟩ = some v
  away : ∀ o b, G.obj o = .at b → ∀ off, G.mem b off = none
  tip : ∀ t g, G.tip t = some g → S.tips[t]? = some g.len ∧ TipAt G w g
  tipobj : ∀ t g o, G.tip t = some g → G.obj o ≠ .at g.b
  tiptip : ∀ t g t' g', G.tip t = some g → G.tip t' = some g' → g.b = g'.b → t = t'
  pan : ∀ v r, S.pan = some (v, r) → ∃ u, Rel G v u
  room : ∀ o b c e f, G.obj o = .at b → w.heap[b]? = some (.cells c e f) → c.size = G.room o
  lentlt : ∀ b, G.lent b = true → b < w.heap.size

/-- What has become of ghosts, state and world. -/
structure Step (G : Gh) (S : St) (w : World) (G' : Gh) (S' : St) (w' : World) : Prop extends Mono G G' where
  un : ∀ o, o < S.objs.length → G.obj o = .un → G'.obj o = .un ∧ S'.objs[o]? = S.objs[o]?
  len : S.objs.length ≤ S'.objs.length
  heap : ∀ b, b < w.heap.size → ¬ Owned G b → w'.heap[b]? = w.heap[b]?
  size : w.heap.size ≤ w'.heap.size
  old : ∀ b, b < w.heap.size → ¬ Owned G b → ∀ off, G'.mem b off = G.mem b off
  own : ∀ b, b < w.heap.size → Owned G' b → Owned G b
  os : w'.os = w.os
  tape : w'.tape = w.tape
  output : w'.output = w.output

theorem Step.refl (G : Gh) (S : St) (w : World) : Step G S w G S w :=
  { Mono.refl G with un := fun _ _ h => ⟨h, rfl⟩, len := Nat.le_refl _, heap := fun _ _ _ => rfl, size := Nat.le_refl _, old := fun _ _ _ _ => rfl, own := fun _ _ h => h, os := rfl, tape := rfl, output := rfl }

theorem Step.trans {G G1 G2 : Gh} {S S1 S2 : St} {w w1 w2 : World} (h : Step G S w G1 S1 w1) (k : Step G1 S1 w1 G2 S2 w2) : Step G S w G2 S2 w2 :=
  { h.toMono.trans k.toMono with
    un := fun o l e => by
      obtain ⟨e1, q1⟩ := h.un o l e
      obtain ⟨e2, q2⟩ := k.un o (Nat.lt_of_lt_of_le l h.len) e1
      exact ⟨e2, q2.trans q1⟩
    len := Nat.le_trans h.len k.len
    heap := fun b l n => (k.heap b (Nat.lt_of_lt_of_le l h.size) fun o => n (h.own b l o)).trans (h.heap b l n)
    size := Nat.le_trans h.size k.size
    old := fun b l n off => (k.old b (Nat.lt_of_lt_of_le l h.size) (fun o => n (h.own b l o)) off).trans (h.old b l n off)
    own := fun b l o => h.own b l (k.own b (Nat.lt_of_lt_of_le l h.size) o)
    os := k.os.trans h.os
    tape := k.tape.trans h.tape
    output := k.output.trans h.output }

/-- A draw of the tape turns nothing. -/
theorem Inv.drew {G : Gh} {S : St} {w : World} (h : Inv G S w) : Inv G S w.drew :=
  { h with obj := h.obj, mem := h.mem, tip := fun t g e => ⟨(h.tip t g e).1, ⟨(h.tip t g e).2.row, (h.tip t g e).2.fin, (h.tip t g e).2.free, (h.tip t g e).2.lent⟩⟩ }

theorem Step.drew (G : Gh) (S : St) (w : World) : Step G S w G S w.drew :=
  { Mono.refl G with un := fun _ _ h => ⟨h, rfl⟩, len := Nat.le_refl _, heap := fun _ _ _ => rfl, size := Nat.le_refl _, old := fun _ _ _ _ => rfl, own := fun _ _ h => h, os := rfl, tape := rfl, output := rfl }

end Go.Sac
