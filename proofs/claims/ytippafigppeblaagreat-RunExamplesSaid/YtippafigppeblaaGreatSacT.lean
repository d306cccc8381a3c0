/- Calls that run apart: values in, values out. -/
import Derived.Test.YtippafigppeblaaGreatSacR
namespace Go.Sac
set_option linter.unusedVariables false
set_option linter.unusedSimpArgs false
open Go

def Gh.bare (mem : Nat → Nat → Option Value) (lent : Nat → Bool) : Gh := ⟨fun _ => .un, fun _ => none, mem, fun _ => 0, lent⟩

theorem inv_bare {mem : Nat → Nat → Option Value} {lent : Nat → Bool} {w : World} (h : ∀ b off v, mem b off = some v → w.cell? ⟨b, off, none⟩ = some v) (hl : ∀ b, lent b = true → b < w.heap.size) :
    Inv (Gh.bare mem lent) St.none w := by
  refine ⟨?_, ?_, ?_, fun _ _ => rfl, h, ?_, ?_, ?_, ?_, ?_, ?_, hl⟩
  · intro o b e; cases e
  · intro o e; cases e
  · intro o o' b e; cases e
  · intro o b e; cases e
  · intro t g e; cases e
  · intro t g o e; cases e
  · intro t g t' g' e; cases e
  · intro v r e; cases e
  · intro o b c e f h; cases h

theorem tip_keep {G G' : Gh} {st : Tip} {a : Option Addr} {cap sz : Nat} {rows rs : List AV} (h : TipOk G st a rows.length cap sz) (hl : rs.length = rows.length) : TipOk G' (if st = .nil ∨ st = .nn ∧ rows = [] then st else .unk) a rs.length cap sz := by
  split
  · rename_i q
    rcases q with rfl | ⟨rfl, _⟩ <;> exact h
  · trivial

theorem shut_lst {st : Tip} {sz : Nat} {rows : List AV} {a' : AV} (h : shutV (.lst st sz rows) = some a') : ∃ rs, shutL rows = some rs ∧ a' = .lst (if st = .nil ∨ st = .nn ∧ rows = [] then st else .unk) sz rs ∧ st ≠ .lent := by
  cases st
  case nn =>
    cases rows with
    | nil => simp only [shutV, Option.some.injEq] at h; subst h; exact ⟨[], rfl, by simp, by simp⟩
    | cons x xs => simp only [shutV, Option.map_eq_some_iff] at h; obtain ⟨rs, h, rfl⟩ := h; exact ⟨rs, h, by simp, by simp⟩
  all_goals
    simp only [shutV, reduceCtorEq, Option.map_eq_some_iff] at h <;> (obtain ⟨rs, h, rfl⟩ := h; exact ⟨rs, h, by simp, by simp⟩)

theorem shut_scal {a a' : AV} (h : shutV a = some a') (s : scal a = true) : scal a' = true := by
  cases a
  case lst => obtain ⟨_, _, rfl, _⟩ := shut_lst h; rfl
  case agg => cases s
  case tup => cases s
  all_goals simp only [shutV, reduceCtorEq, Option.some.injEq, Option.map_eq_some_iff, Option.bind_eq_some_iff] at h
  case eptr => obtain ⟨_, _, rfl⟩ := h; rfl
  case func => obtain ⟨_, _, _, _, rfl⟩ := h; rfl
  case iface => obtain ⟨_, _, rfl⟩ := h; rfl
  all_goals (subst h; exact s)

theorem shutL_length : ∀ {l l' : List AV}, shutL l = some l' → l'.length = l.length
  | [], l', h => by simp [shutL] at h; subst h; rfl
  | a :: l, l', h => by
    simp only [shutL, Option.bind_eq_some_iff, Option.map_eq_some_iff] at h
    obtain ⟨_, _, r, h, rfl⟩ := h
    simp [shutL_length h]

mutual
theorem shut_rel {G : Gh} : ∀ (a : AV) (a' : AV) (v : Value), shutV a = some a' → Rel G a v → Rel (Gh.bare G.mem G.lent) a' v
  | .bool b, a', v, h, r => by simp [shutV] at h; subst h; simpa [Rel] using r
  | .int k n, a', v, h, r => by simp [shutV] at h; subst h; simpa [Rel] using r
  | .str s, a', v, h, r => by simp [shutV] at h; subst h; simpa [Rel] using r
  | .nilptr, a', v, h, r => by simp [shutV] at h; subst h; simpa [Rel] using r
  | .nilmap, a', v, h, r => by simp [shutV] at h; subst h; simpa [Rel] using r
  | .nilfunc, a', v, h, r => by simp [shutV] at h; subst h; simpa [Rel] using r
  | .niliface, a', v, h, r => by simp [shutV] at h; subst h; simpa [Rel] using r
  | .lst st sz rows, a', v, h, r => by
    obtain ⟨rs, h1, rfl, hst⟩ := shut_lst h
    simp only [Rel] at r ⊢
    obtain ⟨p, cap, rfl, hl, ht, hr⟩ := r
    have hlen := shutL_length h1
    refine ⟨p, cap, by rw [hlen], by rw [hlen]; exact hl, tip_keep ht hlen, ?_⟩
    rcases hr with ⟨rfl, hr⟩ | ⟨b, off, rfl, hr, hlt⟩
    · simp [shutL] at h1; subst h1; exact .inl ⟨rfl, hr⟩
    · exact .inr ⟨b, off, rfl, shut_rows sz rows rs b off h1 hr, .inr (hlt.resolve_left hst)⟩
  | .func f a c, a', v, h, r => by
    simp only [shutV, Option.bind_eq_some_iff, Option.map_eq_some_iff] at h
    obtain ⟨a1, h1, c1, h2, rfl⟩ := h
    simp only [Rel] at r ⊢
    obtain ⟨va, vc, rfl, r1, r2⟩ := r
    exact ⟨va, vc, rfl, shutL_rel a a1 _ h1 r1, shutL_rel c c1 _ h2 r2⟩
  | .iface t x, a', v, h, r => by
    simp only [shutV, Option.map_eq_some_iff] at h
    obtain ⟨x1, h1, rfl⟩ := h
    simp only [Rel] at r ⊢
    obtain ⟨u, rfl, r⟩ := r
    exact ⟨u, rfl, shut_rel x x1 u h1 r⟩
  | .agg cs, a', v, h, r => by
    simp only [shutV, Option.map_eq_some_iff] at h
    obtain ⟨x1, h1, rfl⟩ := h
    simp only [Rel] at r ⊢
    obtain ⟨u, rfl, r⟩ := r
    exact ⟨u, rfl, shutL_rel cs x1 _ h1 r⟩
  | .tup cs, a', v, h, r => by
    simp only [shutV, Option.map_eq_some_iff] at h
    obtain ⟨x1, h1, rfl⟩ := h
    simp only [Rel] at r ⊢
    obtain ⟨u, rfl, r⟩ := r
    exact ⟨u, rfl, shutL_rel cs x1 _ h1 r⟩
  | .eptr row o, a', v, h, r => by
    simp only [shutV, Option.map_eq_some_iff] at h
    obtain ⟨x1, h1, rfl⟩ := h
    simp only [Rel] at r ⊢
    obtain ⟨b, base, rfl, r⟩ := r
    exact ⟨b, base, rfl, shut_cells row x1 b base h1 r⟩
  | .ptr _ _, _, _, h, _ | .sl .., _, _, h, _ | .map _, _, _, h, _ | .yld _, _, _, h, _ | .junk, _, _, h, _ => by simp [shutV] at h
theorem shutL_rel {G : Gh} : ∀ (a : List AV) (a' : List AV) (v : List Value), shutL a = some a' → RelL G a v → RelL (Gh.bare G.mem G.lent) a' v
  | [], a', v, h, r => by simp [shutL] at h; subst h; simpa [RelL] using r
  | x :: xs, a', v, h, r => by
    simp only [shutL, Option.bind_eq_some_iff, Option.map_eq_some_iff] at h
    obtain ⟨y, h1, ys, h2, rfl⟩ := h
    simp only [RelL] at r ⊢
    obtain ⟨u, us, rfl, r1, r2⟩ := r
    exact ⟨u, us, rfl, shut_rel x y u h1 r1, shutL_rel xs ys us h2 r2⟩
theorem shut_cells {G : Gh} : ∀ (a : List AV) (a' : List AV) (b off : Nat), shutL a = some a' → CellsAt G a b off → CellsAt (Gh.bare G.mem G.lent) a' b off
  | [], a', b, off, h, r => by simp [shutL] at h; subst h; simp [CellsAt]
  | x :: xs, a', b, off, h, r => by
    simp only [shutL, Option.bind_eq_some_iff, Option.map_eq_some_iff] at h
    obtain ⟨y, h1, ys, h2, rfl⟩ := h
    simp only [CellsAt] at r ⊢
    obtain ⟨⟨v, e, r, s⟩, rs⟩ := r
    exact ⟨⟨v, e, shut_rel x y v h1 r, shut_scal h1 s⟩, shut_cells xs ys b _ h2 rs⟩
theorem shut_rows {G : Gh} (sz : Nat) : ∀ (a : List AV) (a' : List AV) (b off : Nat), shutL a = some a' → RowsAt G sz a b off → RowsAt (Gh.bare G.mem G.lent) sz a' b off
  | [], a', b, off, h, r => by simp [shutL] at h; subst h; simp [RowsAt]
  | .agg cs :: xs, a', b, off, h, r => by
    simp only [shutL, shutV, Option.bind_eq_some_iff, Option.map_eq_some_iff] at h
    obtain ⟨y, ⟨c1, h1, rfl⟩, ys, h2, rfl⟩ := h
    simp only [RowsAt] at r ⊢
    exact ⟨by rw [shutL_length h1]; exact r.1, shut_cells cs c1 b off h1 r.2.1, shut_rows sz xs ys b _ h2 r.2.2⟩
  | .bool _ :: _, _, _, _, _, k | .int .. :: _, _, _, _, _, k | .str _ :: _, _, _, _, _, k | .ptr .. :: _, _, _, _, _, k | .nilptr :: _, _, _, _, _, k | .eptr .. :: _, _, _, _, _, k | .lst .. :: _, _, _, _, _, k
  | .sl .. :: _, _, _, _, _, k | .map _ :: _, _, _, _, _, k | .nilmap :: _, _, _, _, _, k | .func .. :: _, _, _, _, _, k | .yld _ :: _, _, _, _, _, k | .nilfunc :: _, _, _, _, _, k | .iface .. :: _, _, _, _, _, k
  | .niliface :: _, _, _, _, _, k | .tup _ :: _, _, _, _, _, k | .junk :: _, _, _, _, _, k => by simp [RowsAt] at k
end

end Go.Sac
