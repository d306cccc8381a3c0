/- Equality of plain values and keys of maps. -/
import Derived.Test.YtippafigppeblaaGreatSacC
import Derived.Laws.StructEq
import Derived.ChangeKeysEq
namespace Go.Sac
set_option linter.unusedVariables false
set_option linter.unusedSimpArgs false
open Go

def scV : Sc → Value → Prop
  | .b, v => ∃ b, v = .bool b
  | .i, v => ∃ k n, v = .int k n
  | .s, v => ∃ s, v = .string s

def scVs : List Sc → List Value → Prop
  | [], l => l = []
  | d :: ds, l => ∃ v vs, l = v :: vs ∧ scV d v ∧ scVs ds vs

def eqV : Value → Value → Option Bool
  | .int k a, .int k' b => bif decide (k = k') then some (a == b) else none
  | .bool a, .bool b => some (a == b)
  | .string a, .string b => some (a.toList == b.toList)
  | _, _ => none

def eqVs : List Value → List Value → Option Bool
  | [], [] => some true
  | a :: as, b :: bs => (eqV a b).bind fun x => (eqVs as bs).map fun y => x && y
  | _, _ => none

theorem scVs.length : ∀ {ds : List Sc} {l : List Value}, scVs ds l → l.length = ds.length
  | [], _, h => by simp only [scVs] at h; subst h; rfl
  | d :: ds, _, h => by obtain ⟨v, vs, rfl, _, h⟩ := h; simp [scVs.length h]

theorem scVs.split : ∀ {a b : List Sc} {l : List Value}, scVs (a ++ b) l → scVs a (l.take a.length) ∧ scVs b (l.drop a.length)
  | [], b, l, h => by simpa [scVs] using h
  | d :: a, b, l, h => by
    obtain ⟨v, vs, rfl, h1, h2⟩ := h
    obtain ⟨h3, h4⟩ := scVs.split h2
    exact ⟨⟨v, _, by simp, h1, h3⟩, by simpa using h4⟩

theorem eqVs.split : ∀ {n : Nat} {x y : List Value} {r : Bool}, eqVs x y = some r → ∃ r1 r2, eqVs (x.take n) (y.take n) = some r1 ∧ eqVs (x.drop n) (y.drop n) = some r2 ∧ r = (r1 && r2)
  | 0, x, y, r, h => ⟨true, r, by simp [eqVs], by simpa using h, by simp⟩
  | n + 1, [], [], r, h => ⟨true, true, by simp [eqVs], by simp [eqVs], by simp [eqVs] at h; simp [h]⟩
  | n + 1, [], _ :: _, r, h => by simp [eqVs] at h
  | n + 1, _ :: _, [], r, h => by simp [eqVs] at h
  | n + 1, a :: x, b :: y, r, h => by
    simp only [eqVs, Option.bind_eq_some_iff, Option.map_eq_some_iff] at h
    obtain ⟨p, hp, q, hq, rfl⟩ := h
    obtain ⟨r1, r2, h1, h2, rfl⟩ := eqVs.split (n := n) hq
    exact ⟨p && r1, r2, by simp [eqVs, hp, h1], by simpa using h2, by simp [Bool.and_assoc]⟩

/-- A value of a type out of its cells. -/
def mkV (P : Program) (t : TypeId) (l : List Value) : Value := if isAggT P t then .agg l.toArray else l.headD undef

theorem cells_isAgg {P : Program} {t : TypeId} {d : TypeDesc} (h : P.underlying t = some d) : isAggT P t = (match d with | .struct _ | .array _ _ => true | _ => false) := by
  simp only [isAggT, h]; cases d <;> rfl

section
variable {P : Program} (w : World)

theorem run_isAgg' {t : TypeId} {d : TypeDesc} (h : P.underlying t = some d) : (isAgg t).run P w = .ok (isAggT P t) w := by
  simp only [isAgg, Sem.run_bind, run_underlying h, Result.andThen_ok, cells_isAgg h]
  cases d <;> rfl

theorem run_sizeOf' {t : TypeId} {d : TypeDesc} (h : P.underlying t = some d) : (sizeOf t).run P w = .ok (P.cellsOf t) w := by
  obtain ⟨i, hi⟩ := info_of_underlying h
  exact run_sizeOf w hi

theorem run_part' {t : TypeId} {d : TypeDesc} (h : P.underlying t = some d) (xs : List Value) (off : Nat) (h1 : isAggT P t = false → P.cellsOf t = 1 ∧ off < xs.length) :
    (part t xs.toArray off).run P w = .ok (mkV P t ((xs.drop off).take (P.cellsOf t))) w := by
  simp only [part, Sem.run_bind, run_isAgg' w h, Result.andThen_ok, mkV]
  cases hb : isAggT P t
  · obtain ⟨h1, this⟩ := h1 hb
    rw [h1]
    simp [List.getElem?_eq_getElem this, List.take_one, List.head?_drop, this]
  · simp [run_sizeOf' w h, List.extract_eq_take_drop]

theorem flat_one {n : Nat} {t : TypeId} {ds : List Sc} (h : flatT P n t = some ds) : ∃ d, P.underlying t = some d ∧ (isAggT P t = false → ds.length = 1 ∧ ∃ x, ds = [x]) := by
  cases n with
  | zero => simp [flatT] at h
  | succ n =>
    simp only [flatT] at h
    split at h
    · rename_i e; exact ⟨_, e, fun _ => by simp at h; subst h; simp⟩
    · rename_i e; exact ⟨_, e, fun _ => by simp at h; subst h; simp⟩
    · rename_i e; exact ⟨_, e, fun _ => by simp at h; subst h; simp⟩
    · rename_i e; exact ⟨_, e, fun q => by rw [cells_isAgg e] at q; simp at q⟩
    · rename_i e; exact ⟨_, e, fun q => by rw [cells_isAgg e] at q; simp at q⟩
    · cases h

def EqOk (P : Program) (n : Nat) : Prop := ∀ t ds xs ys r, flatT P n t = some ds → scVs ds xs → scVs ds ys → eqVs xs ys = some r →
  ∀ k (w : World), (Op.equalIn (n + k) t (mkV P t xs) (mkV P t ys)).run P w = .ok r w

theorem eqFs (n : Nat) (ih : EqOk P n) (k : Nat) (X Y : List Value) : ∀ (fs : List Field) (off : Nat) (ds : List Sc) (r : Bool), flatFs P (flatT P n) fs off = some ds →
    scVs ds (X.drop off) → scVs ds (Y.drop off) → eqVs (X.drop off) (Y.drop off) = some r → (Op.eqFields (n + k) X.toArray Y.toArray fs).run P w = .ok r w
  | [], off, ds, r, h, hx, hy, he => by
    simp [flatFs] at h; subst h
    simp only [scVs] at hx hy
    rw [hx, hy] at he
    simp [eqVs] at he; subst he
    simp [Op.eqFields]
  | f :: fs, off, ds, r, h, hx, hy, he => by
    simp only [flatFs] at h
    cases hc : (f.name != "_" && Nat.beq f.offset off)
    · simp [hc] at h
    · simp only [hc, cond_true] at h
      simp only [Bool.and_eq_true, bne_iff_ne] at hc
      obtain ⟨hn, ho⟩ := hc
      have ho : f.offset = off := by simpa using ho
      cases hd : flatT P n f.type with
      | none => simp [hd] at h
      | some d =>
        simp only [hd] at h
        cases hl : Nat.beq d.length (P.cellsOf f.type)
        · simp [hl] at h
        · simp only [hl, cond_true, Option.map_eq_some_iff] at h
          have hl : d.length = P.cellsOf f.type := by simpa using hl
          obtain ⟨ds', h', rfl⟩ := h
          obtain ⟨x1, x2⟩ := hx.split
          obtain ⟨y1, y2⟩ := hy.split
          obtain ⟨r1, r2, e1, e2, rfl⟩ := eqVs.split (n := d.length) he
          rw [List.drop_drop] at x2 y2 e2
          rw [List.drop_drop] at e2
          obtain ⟨de, hu, h1⟩ := flat_one hd
          have lx := hx.length; have ly := hy.length
          simp at lx ly
          have p1 := run_part' w hu X off (fun q => by have := (h1 q).1; omega)
          have p2 := run_part' w hu Y off (fun q => by have := (h1 q).1; omega)
          rw [← hl] at p1 p2
          have p3 := ih f.type d _ _ r1 hd x1 y1 e1 k w
          have p4 := eqFs n ih k X Y fs (off + d.length) ds' r2 h' x2 y2 e2
          simp only [Op.eqFields, ho, hn, ne_eq, not_false_eq_true, if_true, Sem.run_bind, p1, p2, p3, Result.andThen_ok, Sem.run_ite]
          cases r1
          · simp
          · simpa using p4

theorem eqIs (n : Nat) (ih : EqOk P n) (k : Nat) (X Y : List Value) {e : TypeId} {d : List Sc} (hd : flatT P n e = some d) (hl : d.length = P.cellsOf e) :
    ∀ (m i : Nat) (r : Bool), scVs (rep d m) (X.drop (i * P.cellsOf e)) → scVs (rep d m) (Y.drop (i * P.cellsOf e)) → eqVs (X.drop (i * P.cellsOf e)) (Y.drop (i * P.cellsOf e)) = some r →
      (Op.eqItems (n + k) e (P.cellsOf e) X.toArray Y.toArray (List.range' i m)).run P w = .ok r w
  | 0, i, r, hx, hy, he => by
    simp only [rep, scVs] at hx hy
    rw [hx, hy] at he
    simp [eqVs] at he; subst he
    simp [Op.eqItems]
  | m + 1, i, r, hx, hy, he => by
    simp only [rep] at hx hy
    obtain ⟨x1, x2⟩ := hx.split
    obtain ⟨y1, y2⟩ := hy.split
    obtain ⟨r1, r2, e1, e2, rfl⟩ := eqVs.split (n := d.length) he
    rw [List.drop_drop, hl, show i * P.cellsOf e + P.cellsOf e = (i + 1) * P.cellsOf e by rw [Nat.succ_mul]] at x2 y2
    rw [List.drop_drop, List.drop_drop, hl, show i * P.cellsOf e + P.cellsOf e = (i + 1) * P.cellsOf e by rw [Nat.succ_mul]] at e2
    obtain ⟨de, hu, h1⟩ := flat_one hd
    have lx := hx.length; have ly := hy.length
    simp at lx ly
    have p1 := run_part' w hu X (i * P.cellsOf e) (fun q => by have := (h1 q).1; omega)
    have p2 := run_part' w hu Y (i * P.cellsOf e) (fun q => by have := (h1 q).1; omega)
    rw [hl] at x1 y1 e1
    have p3 := ih e d _ _ r1 hd x1 y1 e1 k w
    have p4 := eqIs n ih k X Y hd hl m (i + 1) r2 x2 y2 e2
    simp only [List.range'_succ, Op.eqItems, Sem.run_bind, p1, p2, p3, Result.andThen_ok, Sem.run_ite]
    cases r1
    · simp
    · simpa using p4

theorem eqOk : ∀ n, EqOk P n
  | 0 => fun t ds xs ys r h => by simp [flatT] at h
  | n + 1 => fun t ds xs ys r h hx hy he k w => by
    have ih := eqOk n
    rw [show n + 1 + k = (n + k) + 1 by omega]
    simp only [flatT] at h
    split at h
    · rename_i hu
      simp at h; subst h
      obtain ⟨_, _, rfl, ⟨a, rfl⟩, hx⟩ := hx; simp only [scVs] at hx; subst hx
      obtain ⟨_, _, rfl, ⟨b, rfl⟩, hy⟩ := hy; simp only [scVs] at hy; subst hy
      simp [eqVs, eqV] at he; subst he
      simp [mkV, cells_isAgg hu, run_equalIn_bool' w _ _ _ _ hu]
    · rename_i hu
      simp at h; subst h
      obtain ⟨_, _, rfl, ⟨k1, a, rfl⟩, hx⟩ := hx; simp only [scVs] at hx; subst hx
      obtain ⟨_, _, rfl, ⟨k2, b, rfl⟩, hy⟩ := hy; simp only [scVs] at hy; subst hy
      simp only [eqVs, eqV] at he
      by_cases q : k1 = k2
      · subst q
        simp at he; subst he
        simp [mkV, cells_isAgg hu, run_equalIn_int w _ _ _ _ _ _ hu]
      · simp [q] at he
    · rename_i hu
      simp at h; subst h
      obtain ⟨_, _, rfl, ⟨a, rfl⟩, hx⟩ := hx; simp only [scVs] at hx; subst hx
      obtain ⟨_, _, rfl, ⟨b, rfl⟩, hy⟩ := hy; simp only [scVs] at hy; subst hy
      simp [eqVs, eqV] at he; subst he
      simp [mkV, cells_isAgg hu, run_equalIn_string w _ _ _ _ hu]
    · rename_i fs hu
      cases hp : P.stoodInHeld t
      · simp only [hp, cond_false] at h
        have hf : P.fieldsOf t = fs := by simp [Program.fieldsOf, hu]
        rw [mkV, mkV, cells_isAgg hu]
        simp only [if_true]
        rw [run_equalIn_struct w _ t _ _ (by rw [hf]; exact hu) hp, hf]
        exact eqFs w n ih k xs ys fs.toList 0 ds r h (by simpa using hx) (by simpa using hy) (by simpa using he)
      · simp [hp] at h
    · rename_i len e hu
      cases hd : flatT P n e with
      | none => simp [hd] at h
      | some d =>
        simp only [hd] at h
        cases hl : Nat.beq d.length (P.cellsOf e)
        · simp [hl] at h
        · simp only [hl, cond_true, Option.some.injEq] at h
          subst h
          have hl : d.length = P.cellsOf e := by simpa using hl
          obtain ⟨i, hi⟩ : ∃ i, P.info? e = some i := by
            obtain ⟨de, hu', _⟩ := flat_one hd
            exact info_of_underlying hu'
          rw [mkV, mkV, cells_isAgg hu]
          simp only [if_true]
          rw [run_equalIn_array w _ _ _ hu hi, List.range_eq_range']
          exact eqIs w n ih k xs ys hd hl len 0 r (by simpa using hx) (by simpa using hy) (by simpa using he)
    · cases h

/- Keys of maps -/

def ChkOk (P : Program) (n : Nat) : Prop := ∀ t ds xs, flatT P n t = some ds → scVs ds xs → ∀ em k (w : World), (Instr.checkKey em (n + k) t (mkV P t xs)).run P w = .ok () w

theorem forIn_fine {α : Type} (b : α → PUnit → Sem (ForInStep PUnit)) : ∀ (l : List α), (∀ x ∈ l, (b x PUnit.unit).run P w = .ok (.yield PUnit.unit) w) → (forIn l PUnit.unit b).run P w = .ok PUnit.unit w
  | [], _ => by simp
  | x :: l, h => by
    simp only [List.forIn_cons, Sem.run_bind, h x (by simp), Result.andThen_ok]
    exact forIn_fine b l fun y hy => h y (by simp [hy])

theorem flatFs_mem {g : TypeId → Option (List Sc)} {X : List Value} : ∀ {fs : List Field} {off : Nat} {ds : List Sc}, flatFs P g fs off = some ds → scVs ds (X.drop off) →
    ∀ f ∈ fs, f.name ≠ "_" ∧ ∃ d, g f.type = some d ∧ d.length = P.cellsOf f.type ∧ scVs d ((X.drop f.offset).take d.length)
  | [], _, _, _, _, f, hf => by simp at hf
  | f :: fs, off, ds, h, hx, f', hf => by
    simp only [flatFs] at h
    cases hc : (f.name != "_" && Nat.beq f.offset off)
    · simp [hc] at h
    · simp only [hc, cond_true] at h
      simp only [Bool.and_eq_true, bne_iff_ne] at hc
      obtain ⟨hn, ho⟩ := hc
      have ho : f.offset = off := by simpa using ho
      cases hd : g f.type with
      | none => simp [hd] at h
      | some d =>
        simp only [hd] at h
        cases hl : Nat.beq d.length (P.cellsOf f.type)
        · simp [hl] at h
        · simp only [hl, cond_true, Option.map_eq_some_iff] at h
          have hl : d.length = P.cellsOf f.type := by simpa using hl
          obtain ⟨ds', h', rfl⟩ := h
          obtain ⟨x1, x2⟩ := hx.split
          rw [List.drop_drop] at x2
          simp only [List.mem_cons] at hf
          rcases hf with rfl | hf
          · exact ⟨hn, d, hd, hl, by rw [ho]; exact x1⟩
          · exact flatFs_mem h' x2 f' hf

theorem rep_mem {d : List Sc} {c : Nat} (hl : d.length = c) {X : List Value} : ∀ {m i : Nat}, scVs (rep d m) (X.drop (i * c)) → ∀ j, i ≤ j → j < i + m → scVs d ((X.drop (j * c)).take c)
  | 0, i, _, j, h1, h2 => by omega
  | m + 1, i, hx, j, h1, h2 => by
    simp only [rep] at hx
    obtain ⟨x1, x2⟩ := hx.split
    rw [List.drop_drop, hl, show i * c + c = (i + 1) * c by rw [Nat.succ_mul]] at x2
    by_cases q : j = i
    · subst q; rw [hl] at x1; exact x1
    · exact rep_mem hl x2 j (by omega) (by omega)

theorem run_part_flat {n : Nat} {t : TypeId} {d : List Sc} (hd : flatT P n t = some d) (hl : d.length = P.cellsOf t) {X : List Value} {off : Nat} (hx : scVs d ((X.drop off).take d.length)) :
    (part t X.toArray off).run P w = .ok (mkV P t ((X.drop off).take (P.cellsOf t))) w := by
  obtain ⟨de, hu, h1⟩ := flat_one hd
  have lx := hx.length
  simp at lx
  exact run_part' w hu X off fun q => by have := (h1 q).1; omega

theorem chkOk : ∀ n, ChkOk P n
  | 0 => fun t ds xs h => by simp [flatT] at h
  | n + 1 => fun t ds xs h hx em k w => by
    have ih := chkOk n
    rw [show n + 1 + k = (n + k) + 1 by omega]
    simp only [flatT] at h
    split at h
    · rename_i hu
      simp [Instr.checkKey, run_underlying hu]
    · rename_i hu
      simp [Instr.checkKey, run_underlying hu]
    · rename_i hu
      simp [Instr.checkKey, run_underlying hu]
    · rename_i fs hu
      cases hp : P.stoodInHeld t
      · simp only [hp, cond_false] at h
        rw [mkV, cells_isAgg hu]
        simp only [if_true, Instr.checkKey, Sem.run_bind, run_underlying hu, Result.andThen_ok]
        rw [← Array.forIn_toList, forIn_fine]
        · rfl
        · intro f hf
          obtain ⟨hn, d, hd, hl, hs⟩ := flatFs_mem h (by simpa using hx) f hf
          have p1 := run_part_flat w hd hl hs
          rw [hl] at hs
          have p2 := ih f.type d _ hd hs em k w
          simp [hn, p1, p2]
      · simp [hp] at h
    · rename_i len e hu
      cases hd : flatT P n e with
      | none => simp [hd] at h
      | some d =>
        simp only [hd] at h
        cases hl : Nat.beq d.length (P.cellsOf e)
        · simp [hl] at h
        · simp only [hl, cond_true, Option.some.injEq] at h
          subst h
          have hl : d.length = P.cellsOf e := by simpa using hl
          rw [mkV, cells_isAgg hu]
          simp only [if_true, Instr.checkKey, Sem.run_bind, run_underlying hu, Result.andThen_ok]
          simp only [Std.Legacy.Range.forIn_eq_forIn_range', Std.Legacy.Range.size, Nat.sub_zero, Nat.add_one_sub_one, Nat.div_one]
          rw [forIn_fine]
          · rfl
          · intro i hi
            obtain ⟨de, hu', _⟩ := flat_one hd
            have hs := rep_mem hl (i := 0) (by simpa using hx) i (by omega) (by simp at hi; omega)
            have p1 := run_part_flat w hd hl (by rw [hl]; exact hs)
            have p2 := ih e d _ hd hs em k w
            simp [run_sizeOf' w hu', p1, p2]
    · cases h

end

/- from the abstract side -/

theorem okSc_rel {G : Gh} {d : Sc} {a : AV} {v : Value} (h : okSc d a = true) (r : Rel G a v) : scV d v := by
  cases d <;> cases a <;> simp [okSc] at h <;> simp only [Rel] at r <;> subst r
  · exact ⟨_, rfl⟩
  · exact ⟨_, _, rfl⟩
  · exact ⟨_, rfl⟩

theorem okScs_rel {G : Gh} : ∀ {ds : List Sc} {as : List AV} {vs : List Value}, okScs ds as = true → RelL G as vs → scVs ds vs
  | [], [], _, _, r => by simpa [RelL, scVs] using r
  | [], _ :: _, _, h, _ => by simp [okScs] at h
  | _ :: _, [], _, h, _ => by simp [okScs] at h
  | d :: ds, a :: as, _, h, r => by
    simp only [okScs, Bool.and_eq_true] at h
    obtain ⟨v, vs, rfl, r1, r2⟩ := r
    exact ⟨v, vs, rfl, okSc_rel h.1 r1, okScs_rel h.2 r2⟩

theorem eqCell_rel {G : Gh} {a b : AV} {v u : Value} {r : Bool} (h : eqCell a b = some r) (ra : Rel G a v) (rb : Rel G b u) : eqV v u = some r := by
  unfold eqCell at h
  split at h
  · simp only [Rel] at ra rb; subst ra; subst rb; exact h
  · simp only [Rel] at ra rb; subst ra; subst rb; exact h
  · simp only [Rel] at ra rb; subst ra; subst rb; simpa [eqV] using h
  · cases h

theorem eqCells_rel {G : Gh} : ∀ {as bs : List AV} {vs us : List Value} {r : Bool}, eqCells as bs = some r → RelL G as vs → RelL G bs us → eqVs vs us = some r
  | [], [], _, _, _, h, ra, rb => by simp only [RelL] at ra rb; subst ra; subst rb; simpa [eqCells, eqVs] using h
  | [], _ :: _, _, _, _, h, _, _ => by simp [eqCells] at h
  | _ :: _, [], _, _, _, h, _, _ => by simp [eqCells] at h
  | a :: as, b :: bs, _, _, r, h, ra, rb => by
    obtain ⟨v, vs, rfl, r1, r2⟩ := ra
    obtain ⟨u, us, rfl, s1, s2⟩ := rb
    simp only [eqCells, Option.bind_eq_some_iff, Option.map_eq_some_iff] at h
    obtain ⟨x, hx, y, hy, rfl⟩ := h
    simp [eqVs, eqCell_rel hx r1 s1, eqCells_rel hy r2 s2]

/-- The cells of a key. -/
def keyCells : AV → List AV
  | .agg cs => cs
  | k => [k]

theorem keyOk_rel {P : Program} {G : Gh} {t : TypeId} {k : AV} {v : Value} (h : keyOk P t k = true) (r : Rel G k v) :
    ∃ ds vs, flatT P 20 t = some ds ∧ RelL G (keyCells k) vs ∧ v = mkV P t vs ∧ scVs ds vs ∧ (isAggT P t = (match k with | .agg _ => true | _ => false)) := by
  unfold keyOk at h
  cases hd : flatT P 20 t with
  | none => simp [hd] at h
  | some ds =>
    by_cases hk : ∃ cs, k = .agg cs
    · obtain ⟨cs, rfl⟩ := hk
      simp only [hd, Bool.and_eq_true] at h
      simp only [Rel] at r
      obtain ⟨vs, rfl, r⟩ := r
      exact ⟨ds, vs.toList, rfl, r, by simp [mkV, h.1], okScs_rel h.2 r, h.1⟩
    · have hk : ∀ cs, k ≠ .agg cs := fun cs e => hk ⟨cs, e⟩
      have h : (!isAggT P t && okScs ds [k]) = true := by
        rw [hd] at h
        cases k <;> first | exact h | exact (hk _ rfl).elim
      simp only [Bool.and_eq_true, Bool.not_eq_true'] at h
      have hc : keyCells k = [k] := by cases k <;> first | rfl | exact (hk _ rfl).elim
      have hr : RelL G [k] [v] := ⟨v, [], rfl, r, rfl⟩
      refine ⟨ds, [v], rfl, by rw [hc]; exact hr, by simp [mkV, h.1], okScs_rel h.2 hr, ?_⟩
      rw [h.1]; cases k <;> first | rfl | exact (hk _ rfl).elim

theorem keyEq_rel {G : Gh} {a b : AV} {v u : Value} {r : Bool} (h : keyEq a b = some r) (ra : Rel G a v) (rb : Rel G b u) :
    (∃ xs ys, v = .agg xs ∧ u = .agg ys ∧ eqVs xs.toList ys.toList = some r) ∨ ((∀ xs, v ≠ .agg xs) ∧ eqV v u = some r) := by
  unfold keyEq at h
  split at h
  · simp only [Rel] at ra rb
    obtain ⟨xs, rfl, ra⟩ := ra
    obtain ⟨ys, rfl, rb⟩ := rb
    exact .inl ⟨xs, ys, rfl, rfl, eqCells_rel h ra rb⟩
  · have := eqCell_rel h ra rb
    refine .inr ⟨fun xs q => ?_, this⟩
    subst q; simp [eqV] at this

def Found (G : Gh) (es : List (AV × AV × Nat)) (ms : List MapEntry) (kv : Value) (base : Nat) : Option (Nat × AV × AV × Nat) → Option (Nat × Value) → Prop
  | none, r' => r' = none
  | some (i, e), r' => ∃ m j, i = base + j ∧ ms[j]? = some m ∧ es[j]? = some e ∧ r' = some (i, m.val) ∧ Rel G e.1 m.key ∧ Rel G e.2.1 m.val ∧ m.born = e.2.2 ∧
      ((∃ xs ys, kv = .agg xs ∧ m.key = .agg ys ∧ eqVs xs.toList ys.toList = some true) ∨ eqV kv m.key = some true)

theorem Found.shift {G : Gh} {e : AV × AV × Nat} {es : List (AV × AV × Nat)} {m : MapEntry} {ms : List MapEntry} {kv : Value} {base : Nat} {r : Option (Nat × AV × AV × Nat)} {r' : Option (Nat × Value)}
    (h : Found G es ms kv (base + 1) r r') : Found G (e :: es) (m :: ms) kv base r r' := by
  cases r with
  | none => exact h
  | some p =>
    obtain ⟨i, x⟩ := p
    obtain ⟨m', j, q, h1, h2, h3⟩ := h
    exact ⟨m', j + 1, by omega, by simpa using h1, by simpa using h2, h3⟩

theorem eqV_sc {d : Sc} {v u : Value} {b : Bool} (s : scV d v) (h : eqV v u = some b) : scV d u := by
  cases d <;> simp only [scV] at s <;> (first | obtain ⟨_, rfl⟩ := s | obtain ⟨_, _, rfl⟩ := s) <;> cases u <;> simp [eqV] at h <;> simp [scV]

theorem eqVs_sc : ∀ {ds : List Sc} {vs us : List Value} {b : Bool}, scVs ds vs → eqVs vs us = some b → scVs ds us
  | [], _, us, _, s, h => by simp only [scVs] at s; subst s; cases us <;> simp [eqVs] at h; simp [scVs]
  | d :: ds, _, [], _, s, h => by obtain ⟨v, vs, rfl, _⟩ := s; simp [eqVs] at h
  | d :: ds, _, u :: us, _, s, h => by
    obtain ⟨v, vs, rfl, s1, s2⟩ := s
    simp only [eqVs, Option.bind_eq_some_iff, Option.map_eq_some_iff] at h
    obtain ⟨x, hx, y, hy, rfl⟩ := h
    exact ⟨u, us, rfl, eqV_sc s1 hx, eqVs_sc s2 hy⟩

/-- Two keys that are compared on the abstract side. -/
theorem keys_eq {P : Program} {G : Gh} {t : TypeId} {k k' : AV} {kv kv' : Value} {b : Bool} (hk : keyOk P t k = true) (rk : Rel G k kv) (rk' : Rel G k' kv') (h : keyEq k k' = some b) :
    (∀ w : World, (Op.equal t kv kv').run P w = .ok b w) ∧ ((∃ xs ys, kv = .agg xs ∧ kv' = .agg ys ∧ eqVs xs.toList ys.toList = some b) ∨ eqV kv kv' = some b) ∧
    (isAggT P t = false → ∃ d sx, P.underlying t = some d ∧ scV sx kv ∧ flatT P 20 t = some [sx] ∧ eqV kv kv' = some b) := by
  obtain ⟨ds, vs, hd, rc, rfl, sc, ha⟩ := keyOk_rel hk rk
  obtain ⟨de, hu, h1⟩ := flat_one hd
  rcases keyEq_rel h rk rk' with ⟨xs, ys, q1, rfl, q3⟩ | ⟨q1, q2⟩
  · have hg : isAggT P t = true := by
      cases hh : isAggT P t with
      | true => rfl
      | false =>
        rw [mkV, hh] at q1
        obtain ⟨_, sx, rfl⟩ := h1 hh
        obtain ⟨v, _, rfl, sv, _⟩ := sc
        simp at q1; subst q1
        cases sx <;> simp [scV] at sv
    have hx : xs.toList = vs := by rw [mkV, hg] at q1; simp at q1; rw [← q1]
    rw [hx] at q3
    refine ⟨fun w => ?_, .inl ⟨xs, ys, q1, rfl, by rw [hx]; exact q3⟩, fun q => by rw [hg] at q; cases q⟩
    have := eqOk (P := P) 20 t ds vs ys.toList b hd sc (eqVs_sc sc q3) q3 9980 w
    rw [show mkV P t ys.toList = .agg ys by simp [mkV, hg]] at this
    exact this
  · have hg : isAggT P t = false := by
      cases hh : isAggT P t with
      | false => rfl
      | true => exact (q1 vs.toArray (by simp [mkV, hh])).elim
    obtain ⟨_, sx, rfl⟩ := h1 hg
    obtain ⟨v, _, rfl, sv, s2⟩ := sc
    simp only [scVs] at s2; subst s2
    have hv : mkV P t [v] = v := by simp [mkV, hg]
    rw [hv] at q2 ⊢
    have sv' := eqV_sc sv q2
    refine ⟨fun w => ?_, .inr q2, fun _ => ⟨de, sx, hu, sv, hd, q2⟩⟩
    have := eqOk (P := P) 20 t [sx] [v] [kv'] b hd ⟨v, [], rfl, sv, rfl⟩ ⟨kv', [], rfl, sv', rfl⟩ (by simp [eqVs, q2]) 9980 w
    rw [hv, show mkV P t [kv'] = kv' by simp [mkV, hg]] at this
    exact this

theorem findAsk_rel {P : Program} {G : Gh} {t : TypeId} {k : AV} {kv : Value} (w : World) (hk : keyOk P t k = true) (rk : Rel G k kv) :
    ∀ (es : List (AV × AV × Nat)) (ms : List MapEntry) (i : Nat) (r : Option (Nat × AV × AV × Nat)), RelE G es ms → findKeyA k es i = some r →
      ∃ r', (Instr.findAsking t kv ms i).run P w = .ok r' w ∧ Found G es ms kv i r r'
  | [], ms, i, r, re, h => by
    simp only [RelE] at re; subst re
    simp [findKeyA] at h; subst h
    exact ⟨none, by simp [Instr.findAsking], rfl⟩
  | e :: es, ms, i, r, re, h => by
    obtain ⟨m, ms, rfl, r1, r2, r3, r4⟩ := re
    simp only [findKeyA] at h
    split at h
    · rename_i hb
      obtain ⟨q1, q2, _⟩ := keys_eq hk rk r1 hb
      simp at h; subst h
      exact ⟨some (i, m.val), by simp [Instr.findAsking, q1 w], m, 0, rfl, by simp, by simp, rfl, r1, r2, r3, q2⟩
    · rename_i hb
      obtain ⟨q1, q2, _⟩ := keys_eq hk rk r1 hb
      obtain ⟨r', p1, p2⟩ := findAsk_rel w hk rk es ms (i + 1) r r4 h
      exact ⟨r', by simp [Instr.findAsking, q1 w, p1], p2.shift⟩
    · cases h

theorem sameNow_eq {P : Program} {t : TypeId} {d : TypeDesc} {sx : Sc} {v u : Value} {b : Bool} (hu : P.underlying t = some d) (hf : flatT P 20 t = some [sx]) (hg : isAggT P t = false) (sv : scV sx v) (h : eqV v u = some b) :
    Instr.sameNow d v u = some b := by
  simp only [flatT, hu] at hf
  cases d with
  | bool => simp at hf; subst hf; obtain ⟨x, rfl⟩ := sv; cases u <;> simp [eqV] at h; simpa [Instr.sameNow] using h
  | int k => simp at hf; subst hf; obtain ⟨k, x, rfl⟩ := sv; cases u <;> simp only [eqV] at h <;> first | cases h | skip
             rename_i k' y; by_cases q : k = k' <;> simp [q] at h; subst q; simpa [Instr.sameNow] using h
  | string => simp at hf; subst hf; obtain ⟨x, rfl⟩ := sv; cases u <;> simp [eqV] at h; rw [Instr.sameNow, beq_toListBytes]; simpa using h
  | struct fs => rw [cells_isAgg hu] at hg; cases hg
  | array n e => rw [cells_isAgg hu] at hg; cases hg
  | _ => simp at hf

theorem findNow_rel {P : Program} {G : Gh} {t : TypeId} {d : TypeDesc} {k : AV} {kv : Value} (hu : P.underlying t = some d) (hg : isAggT P t = false) (hk : keyOk P t k = true) (rk : Rel G k kv) :
    ∀ (es : List (AV × AV × Nat)) (ms : List MapEntry) (i : Nat) (r : Option (Nat × AV × AV × Nat)), RelE G es ms → findKeyA k es i = some r →
      ∃ r', Instr.findNow d kv ms i = some r' ∧ Found G es ms kv i r r'
  | [], ms, i, r, re, h => by
    simp only [RelE] at re; subst re
    simp [findKeyA] at h; subst h
    exact ⟨none, by simp [Instr.findNow], rfl⟩
  | e :: es, ms, i, r, re, h => by
    obtain ⟨m, ms, rfl, r1, r2, r3, r4⟩ := re
    simp only [findKeyA] at h
    split at h
    · rename_i hb
      obtain ⟨_, q2, q⟩ := keys_eq hk rk r1 hb
      obtain ⟨de, sx, hu', sv, hf, he⟩ := q hg
      rw [hu] at hu'; cases hu'
      simp at h; subst h
      exact ⟨some (i, m.val), by simp [Instr.findNow, sameNow_eq hu hf hg sv he], m, 0, rfl, by simp, by simp, rfl, r1, r2, r3, q2⟩
    · rename_i hb
      obtain ⟨_, q2, q⟩ := keys_eq hk rk r1 hb
      obtain ⟨de, sx, hu', sv, hf, he⟩ := q hg
      rw [hu] at hu'; cases hu'
      obtain ⟨r', p1, p2⟩ := findNow_rel hu hg hk rk es ms (i + 1) r r4 h
      exact ⟨r', by simp [Instr.findNow, sameNow_eq hu hf hg sv he, p1], p2.shift⟩
    · cases h

theorem findKey_rel {P : Program} {G : Gh} {t : TypeId} {k : AV} {kv : Value} (w : World) (hk : keyOk P t k = true) (rk : Rel G k kv) {es : List (AV × AV × Nat)} {ms : List MapEntry}
    {r : Option (Nat × AV × AV × Nat)} (re : RelE G es ms) (h : findKeyA k es 0 = some r) : ∃ r', (Instr.findKey t kv ms).run P w = .ok r' w ∧ Found G es ms kv 0 r r' := by
  obtain ⟨ds, vs, hd, rc, hv, sc, ha⟩ := keyOk_rel hk rk
  obtain ⟨de, hu, h1⟩ := flat_one hd
  cases hg : isAggT P t
  · obtain ⟨r', p1, p2⟩ := findNow_rel hu hg hk rk es ms 0 r re h
    exact ⟨r', by simp [Instr.findKey, run_underlying hu, p1], p2⟩
  · cases ms with
    | nil =>
      cases es with
      | nil =>
        simp [findKeyA] at h; subst h
        exact ⟨none, by simp [Instr.findKey, run_underlying hu, Instr.findNow], rfl⟩
      | cons e es => obtain ⟨m, ms, q, _⟩ := re; cases q
    | cons m ms =>
      obtain ⟨r', p1, p2⟩ := findAsk_rel w hk rk es (m :: ms) 0 r re h
      have hn : Instr.findNow de kv (m :: ms) 0 = none := by
        rw [cells_isAgg hu] at hg
        cases de <;> simp at hg <;> simp [Instr.findNow, Instr.sameNow]
      exact ⟨r', by simp [Instr.findKey, run_underlying hu, hn, p1], p2⟩

theorem checkKey_rel {P : Program} {G : Gh} {t : TypeId} {k : AV} {kv : Value} (w : World) (em : Bool) (hk : keyOk P t k = true) (rk : Rel G k kv) : (Instr.checkKey em 10000 t kv).run P w = .ok () w := by
  obtain ⟨ds, vs, hd, rc, rfl, sc, ha⟩ := keyOk_rel hk rk
  exact chkOk 20 t ds vs hd sc em 9980 w

theorem sameBits_one {v u : Value} (n : Nat) (h : eqV v u = some true) : Instr.sameBits n v u = true := by
  cases v <;> cases u <;> simp only [eqV] at h <;> first | cases h | skip
  · simp at h; simp [Instr.sameBits, h]
  · rename_i k a k' b
    by_cases q : k = k' <;> simp [q] at h
    simp [Instr.sameBits, q, h]
  · simp only [Option.some.injEq] at h
    rw [← beq_toListBytes] at h
    simpa [Instr.sameBits] using h

theorem sameBits_all (n : Nat) : ∀ {vs us : List Value}, eqVs vs us = some true → vs.length = us.length ∧ (vs.zip us).all (fun (x, y) => Instr.sameBits n x y) = true
  | [], [], _ => by simp
  | [], _ :: _, h => by simp [eqVs] at h
  | _ :: _, [], h => by simp [eqVs] at h
  | v :: vs, u :: us, h => by
    simp only [eqVs, Option.bind_eq_some_iff, Option.map_eq_some_iff] at h
    obtain ⟨x, hx, y, hy, q⟩ := h
    simp only [Bool.and_eq_true] at q
    obtain ⟨rfl, rfl⟩ := q
    obtain ⟨h1, h2⟩ := sameBits_all n hy
    exact ⟨by simp [h1], by simp only [List.zip_cons_cons, List.all_cons, h2, sameBits_one n hx, Bool.and_self]⟩

theorem stays_rel {P : Program} (w : World) {old new : Value} (h : (∃ xs ys, new = .agg xs ∧ old = .agg ys ∧ eqVs xs.toList ys.toList = some true) ∨ eqV new old = some true) :
    (Instr.keyThatStays old new).run P w = .ok new w := by
  have eqs : ∀ {a b : Value}, eqV a b = some true → eqV b a = some true := by
    intro a b h
    cases a <;> cases b <;> simp only [eqV] at h ⊢ <;> first | cases h | skip
    · simpa [Bool.beq_comm] using h
    · rename_i k a k' b
      by_cases q : k = k' <;> simp [q] at h
      subst q; simp [h]
    · simp at h ⊢; exact h.symm
  have hs : Instr.sameBits 10000 old new = true := by
    rcases h with ⟨xs, ys, rfl, rfl, h⟩ | h
    · have : ∀ {a b : List Value}, eqVs a b = some true → eqVs b a = some true := by
        intro a
        induction a with
        | nil => intro b h; cases b <;> simp [eqVs] at h ⊢
        | cons x a ih =>
          intro b h
          cases b with
          | nil => simp [eqVs] at h
          | cons y b =>
            simp only [eqVs, Option.bind_eq_some_iff, Option.map_eq_some_iff] at h
            obtain ⟨p, hp, q, hq, e⟩ := h
            simp only [Bool.and_eq_true] at e
            obtain ⟨rfl, rfl⟩ := e
            simp [eqVs, eqs hp, ih hq]
      obtain ⟨h1, h2⟩ := sameBits_all 9999 (this h)
      simp only [Array.length_toList] at h1
      simp only [Instr.sameBits, h1, BEq.rfl, Bool.true_and]
      exact h2
    · exact sameBits_one _ (eqs h)
  simp [Instr.keyThatStays, hs]

end Go.Sac
