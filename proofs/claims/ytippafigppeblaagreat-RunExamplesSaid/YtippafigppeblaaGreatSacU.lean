/- Calls that run apart: soundness. -/
import Derived.Test.YtippafigppeblaaGreatSacT
namespace Go.Sac
set_option linter.unusedVariables false
set_option linter.unusedSimpArgs false
open Go

def allF (g : AV → Option AV) (l : List AV) : Option (List AV) := l.foldr (fun x acc => acc.bind fun acc => (g x).map (· :: acc)) (some [])

theorem allF_cons {g : AV → Option AV} {x : AV} {l r : List AV} (h : allF g (x :: l) = some r) : ∃ y ys, g x = some y ∧ allF g l = some ys ∧ r = y :: ys := by
  simp only [allF, List.foldr_cons, Option.bind_eq_some_iff, Option.map_eq_some_iff] at h
  obtain ⟨ys, h1, y, h2, rfl⟩ := h
  exact ⟨y, ys, h2, h1, rfl⟩

theorem allF_nil {g : AV → Option AV} {r : List AV} (h : allF g [] = some r) : r = [] := by simp [allF] at h; exact h

theorem allF_length {g : AV → Option AV} : ∀ {l r : List AV}, allF g l = some r → r.length = l.length
  | [], _, h => by rw [allF_nil h]
  | x :: l, _, h => by obtain ⟨y, ys, _, h2, rfl⟩ := allF_cons h; simp [allF_length h2]

theorem freeze_lst {st st0 : Tip} {S : St} {n sz : Nat} {rows : List AV} {a' : AV} (h : freeze st S (n + 1) (.lst st0 sz rows) = some a') : ∃ rs, allF (freeze st S n) rows = some rs ∧ a' = .lst (if st0 = .nil ∨ st0 = .nn ∧ rows = [] then st0 else st) sz rs ∧ st0 ≠ .lent := by
  cases st0
  case nn =>
    cases rows with
    | nil => simp only [freeze, Option.some.injEq] at h; subst h; exact ⟨[], rfl, by simp, by simp⟩
    | cons x xs => simp only [freeze, Option.map_eq_some_iff] at h; obtain ⟨rs, h, rfl⟩ := h; exact ⟨rs, h, by simp, by simp⟩
  all_goals
    simp only [freeze, reduceCtorEq, Option.map_eq_some_iff] at h <;> (obtain ⟨rs, h, rfl⟩ := h; exact ⟨rs, h, by simp, by simp⟩)

theorem freeze_scal {st : Tip} {S : St} {n : Nat} {a a' : AV} (h : freeze st S n a = some a') (s : scal a = true) : scal a' = true := by
  cases n with
  | zero => simp [freeze] at h
  | succ n =>
    cases a
    case lst => obtain ⟨_, _, rfl, _⟩ := freeze_lst h; rfl
    case agg => cases s
    case tup => cases s
    case sl o off len cap sz =>
      simp only [freeze] at h
      split at h
      · simp only [Option.bind_eq_some_iff, Option.map_eq_some_iff] at h
        obtain ⟨_, _, _, _, rfl⟩ := h; rfl
      · cases h
    all_goals simp only [freeze, reduceCtorEq, Option.some.injEq, Option.map_eq_some_iff, Option.bind_eq_some_iff] at h
    case func => obtain ⟨_, _, _, _, rfl⟩ := h; rfl
    case iface => obtain ⟨_, _, rfl⟩ := h; rfl
    all_goals (subst h; exact s)

/-- Where frozen values may be read. -/
structure Keeps (G G2 : Gh) (w : World) (st : Tip) : Prop where
  mem : ∀ b off u, G.lent b = false → G.mem b off = some u → G2.mem b off = some u
  obj : ∀ o b off u, G.obj o = .at b → w.cell? ⟨b, off, none⟩ = some u → G2.mem b off = some u
  lent : ∀ b, G.lent b = false → st = .lent ∨ G2.lent b = false
  objl : ∀ o b, G.obj o = .at b → st = .lent ∨ G2.lent b = false
  tip : st = .lent ∨ st = .unk

theorem Keeps.tipOk {G G2 : Gh} {w : World} {st : Tip} (k : Keeps G G2 w st) (a : Option Addr) (len cap sz : Nat) : TipOk G2 st a len cap sz := by
  rcases k.tip with rfl | rfl <;> trivial

section
variable {G G2 : Gh} {S : St} {w : World} {st : Tip}

theorem allF_rel {n : Nat} (ih : ∀ a a' v, freeze st S n a = some a' → Rel G a v → Rel G2 a' v) : ∀ {l r : List AV} {vs : List Value}, allF (freeze st S n) l = some r → RelL G l vs → RelL G2 r vs
  | [], _, _, h, r => by rw [allF_nil h]; simpa [RelL] using r
  | x :: l, _, _, h, r => by
    obtain ⟨y, ys, h1, h2, rfl⟩ := allF_cons h
    obtain ⟨u, us, rfl, r1, r2⟩ := r
    exact ⟨u, us, rfl, ih _ _ _ h1 r1, allF_rel ih h2 r2⟩

theorem allF_cells {n : Nat} (ih : ∀ a a' v, freeze st S n a = some a' → Rel G a v → Rel G2 a' v) {b : Nat} (hm : ∀ off u, G.mem b off = some u → G2.mem b off = some u) :
    ∀ {l r : List AV} {off : Nat}, allF (freeze st S n) l = some r → CellsAt G l b off → CellsAt G2 r b off
  | [], _, _, h, r => by rw [allF_nil h]; simp [CellsAt]
  | x :: l, _, _, h, r => by
    obtain ⟨y, ys, h1, h2, rfl⟩ := allF_cons h
    simp only [CellsAt] at r ⊢
    obtain ⟨⟨v, e, r1, s⟩, r2⟩ := r
    exact ⟨⟨v, hm _ _ e, ih _ _ _ h1 r1, freeze_scal h1 s⟩, allF_cells ih hm h2 r2⟩

theorem freeze_agg {n : Nat} {cs : List AV} {a' : AV} (h : freeze st S n (.agg cs) = some a') : ∃ m cs', n = m + 1 ∧ allF (freeze st S m) cs = some cs' ∧ a' = .agg cs' := by
  cases n with
  | zero => simp [freeze] at h
  | succ m =>
    simp only [freeze, Option.map_eq_some_iff] at h
    obtain ⟨cs', h, rfl⟩ := h
    exact ⟨m, cs', rfl, h, rfl⟩

theorem freeze_rel (inv : Inv G S w) (kp : Keeps G G2 w st) : ∀ (n : Nat) (a a' : AV) (v : Value), freeze st S n a = some a' → Rel G a v → Rel G2 a' v := by
  intro n
  induction n using Nat.strongRecOn with
  | ind n ih =>
  intro a a' v h r
  cases n with
  | zero => simp [freeze] at h
  | succ n =>
    have ih1 := ih n (by omega)
    -- rows, in a block whose cells are kept
    have rows_ok : ∀ (sz b : Nat) (hm : ∀ off u, G.mem b off = some u → G2.mem b off = some u) (rows rs : List AV) (off : Nat), allF (freeze st S n) rows = some rs → RowsAt G sz rows b off → RowsAt G2 sz rs b off := by
      intro sz b hm rows
      induction rows with
      | nil => intro rs off h _; rw [allF_nil h]; simp [RowsAt]
      | cons x xs ihr =>
        intro rs off h r
        obtain ⟨y, ys, h1, h2, rfl⟩ := allF_cons h
        cases x <;> simp only [RowsAt] at r
        rename_i cs
        obtain ⟨m, cs', rfl, h3, rfl⟩ := freeze_agg h1
        simp only [RowsAt]
        exact ⟨by rw [allF_length h3]; exact r.1, allF_cells (ih m (by omega)) hm h3 r.2.1, ihr ys _ h2 r.2.2⟩
    have flat_ok : ∀ (sz b : Nat) (rows rs cs : List AV) (vs : List Value) (off : Nat), allF (freeze st S n) rows = some rs → Flat sz rows cs → RelL G cs vs → cs.all scal = true → (∀ j u, vs[j]? = some u → G2.mem b (off + j) = some u) → RowsAt G2 sz rs b off := by
      intro sz b rows
      induction rows with
      | nil => intro rs cs vs off h _ _ _ _; rw [allF_nil h]; simp [RowsAt]
      | cons x xs ihr =>
        intro rs cs vs off h f r s hm
        obtain ⟨y, ys, h1, h2, rfl⟩ := allF_cons h
        obtain ⟨c, d, rfl, hc, rfl, f⟩ := f
        obtain ⟨m, cs', rfl, h3, rfl⟩ := freeze_agg h1
        simp only [List.all_append, Bool.and_eq_true] at s
        have r1 := r.take c.length
        have r2 := r.drop c.length
        simp only [List.take_left, List.drop_left] at r1 r2
        have hvl : c.length ≤ vs.length := by rw [← r.length]; simp
        have r3 := allF_rel (ih m (by omega)) h3 r1
        have hs' : cs'.all scal = true := by
          have : ∀ {l l' : List AV}, allF (freeze st S m) l = some l' → l.all scal = true → l'.all scal = true := by
            intro l
            induction l with
            | nil => intro l' h _; rw [allF_nil h]; rfl
            | cons x xs ihx =>
              intro l' h k
              obtain ⟨y, ys, g1, g2, rfl⟩ := allF_cons h
              simp only [List.all_cons, Bool.and_eq_true] at k ⊢
              exact ⟨freeze_scal g1 k.1, ihx g2 k.2⟩
          exact this h3 s.1
        simp only [RowsAt]
        refine ⟨by rw [allF_length h3]; exact hc, cellsAt_of r3 hs' fun j u hj => ?_, ihr ys d (vs.drop c.length) _ h2 f r2 s.2 fun j u hj => ?_⟩
        · rw [List.getElem?_take] at hj
          split at hj
          · exact hm j u hj
          · cases hj
        · rw [List.getElem?_drop] at hj
          have := hm _ u hj
          rwa [hc, ← Nat.add_assoc] at this
    cases a
    case lst st0 sz rows =>
      obtain ⟨rs, h1, rfl, hst⟩ := freeze_lst h
      simp only [Rel] at r ⊢
      obtain ⟨p, cap, rfl, hl, ht, hr⟩ := r
      have hlen := allF_length h1
      by_cases hn : st0 = .nil ∨ st0 = .nn ∧ rows = []
      · rw [if_pos hn]
        refine ⟨p, cap, by rw [hlen], by rw [hlen]; exact hl, by rw [hlen]; rcases hn with rfl | ⟨rfl, _⟩ <;> exact ht, ?_⟩
        rcases hr with ⟨rfl, hr⟩ | ⟨b, off, rfl, hr, hlt⟩
        · rw [allF_nil h1]; exact .inl ⟨rfl, hr⟩
        · rcases hn with rfl | ⟨_, rfl⟩
          · cases ht.1
          · have := allF_nil h1
            subst this
            exact .inl ⟨rfl, fun x e => by cases e; rfl⟩
      simp only [if_neg hn]
      refine ⟨p, cap, by rw [hlen], by rw [hlen]; exact hl, kp.tipOk _ _ _ _, ?_⟩
      rcases hr with ⟨rfl, hr⟩ | ⟨b, off, rfl, hr, hlt⟩
      · rw [allF_nil h1]; exact .inl ⟨rfl, hr⟩
      · have hlt : G.lent b = false := hlt.resolve_left hst
        exact .inr ⟨b, off, rfl, rows_ok sz b (fun off u => kp.mem b off u hlt) rows rs off h1 hr, kp.lent b hlt⟩
    case sl o off len cap sz =>
      simp only [freeze] at h
      split at h
      · rename_i cells ho
        simp only [Option.bind_eq_some_iff, Option.map_eq_some_iff] at h
        obtain ⟨cs, hc, rs, h1, rfl⟩ := h
        have h1 : allF (freeze st S n) (chunk sz len cs) = some rs := h1
        have hra : readAt S (.ptr o off) (len * sz) = some cs := by simp [readAt, ho, hc]
        simp only [Rel] at r
        cases hg : G.obj o with
        | un => simp [hg] at r
        | dead => rw [inv.dead o hg] at ho; cases ho
        | «at» b =>
          simp only [hg] at r
          obtain ⟨c, rfl, hl, _⟩ := r
          have rp : Rel G (.ptr o off) (.pointer (some ⟨b, off, none⟩)) := by simp [Rel, hg]
          obtain ⟨b', off', vs, e, q1, q2, q3, q4⟩ := read_rel inv rp hra
          cases e
          have hlen := allF_length h1
          rw [chunk_length] at hlen
          simp only [Rel]
          refine ⟨_, c, by rw [hlen], by rw [hlen]; exact hl, kp.tipOk _ _ _ _, .inr ⟨b, off, rfl, ?_, kp.objl o b hg⟩⟩
          exact flat_ok sz b _ rs cs vs off h1 (chunk_flat _ _ (by rw [q1.length, q2])) q1 q4 fun j u hj => kp.obj o b _ u hg (q3 j u hj)
      · cases h
    case agg cs =>
      simp only [freeze, Option.map_eq_some_iff] at h
      obtain ⟨cs', h1, rfl⟩ := h
      obtain ⟨vs, rfl, r⟩ := r
      exact ⟨vs, rfl, allF_rel ih1 h1 r⟩
    case tup cs =>
      simp only [freeze, Option.map_eq_some_iff] at h
      obtain ⟨cs', h1, rfl⟩ := h
      obtain ⟨vs, rfl, r⟩ := r
      exact ⟨vs, rfl, allF_rel ih1 h1 r⟩
    case iface t x =>
      simp only [freeze, Option.map_eq_some_iff] at h
      obtain ⟨x', h1, rfl⟩ := h
      obtain ⟨u, rfl, r⟩ := r
      exact ⟨u, rfl, ih1 _ _ _ h1 r⟩
    case func f x y =>
      simp only [freeze, Option.bind_eq_some_iff, Option.map_eq_some_iff] at h
      obtain ⟨x', h1, y', h2, rfl⟩ := h
      obtain ⟨va, vc, rfl, r1, r2⟩ := r
      exact ⟨va, vc, rfl, allF_rel ih1 h1 r1, allF_rel ih1 h2 r2⟩
    all_goals simp only [freeze, reduceCtorEq, Option.some.injEq] at h
    all_goals (subst h; simpa [Rel] using r)

end

end Go.Sac
