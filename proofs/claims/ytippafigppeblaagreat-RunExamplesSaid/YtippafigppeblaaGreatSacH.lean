/- Operations that leave the state alone: slices, numbers, equality, conversions. -/
import Derived.Test.YtippafigppeblaaGreatSacF
namespace Go.Sac
set_option linter.unusedVariables false
set_option linter.unusedSimpArgs false
open Go

section
variable {P : Program} {G : Gh} {S : St} {w : World} (inv : Inv G S w)

def RelO (G : Gh) : Option AV → Option Value → Prop
  | none, v => v = none
  | some a, v => ∃ u, v = some u ∧ Rel G a u

theorem RelO.map {e : Env} {ρ : Operand → Value} (h : EvOk G e ρ) (x : Option Operand) : RelO G (x.map e.ev) (x.map ρ) := by
  cases x with
  | none => rfl
  | some x => exact ⟨_, rfl, h x⟩

theorem sliceBound_ok {i : AV} {v : Value} {most n : Nat} (h : optIdx (some i) most 0 = some n) (r : Rel G i v) (y : Nat) (hy : most ≤ y) (code : BoundsCode) :
    (Instr.sliceBound v y code).run P w = .ok n w ∧ n ≤ most := by
  cases i <;> simp only [optIdx] at h <;> try (cases h; done)
  rename_i k z
  simp only [Rel] at r; subst r
  cases hb : (decide (0 ≤ z) && decide (z ≤ (most : Int)))
  · simp [hb] at h
  · simp only [hb, cond_true, Option.some.injEq] at h
    simp only [Bool.and_eq_true, decide_eq_true_eq] at hb
    subst h
    exact ⟨by simp [Instr.sliceBound, asIntOf, hb.1, show z ≤ (y : Int) by omega], by omega⟩

theorem bounds_ok {len most cap : Nat} {lo hi mx : Option AV} {vlo vhi vmx : Option Value} {l h : Nat} {m : Option Nat} (hb : bounds len most lo hi mx = some (l, h, m)) (hl : len ≤ most) (hm : most ≤ cap)
    (rl : RelO G lo vlo) (rh : RelO G hi vhi) (rm : RelO G mx vmx) (isSlice : Bool) :
    (Instr.sliceBounds isSlice len cap vlo vhi vmx).run P w = .ok (l, h, m.getD cap) w ∧ l ≤ h ∧ h ≤ most ∧ (∀ k, m = some k → h ≤ k ∧ k ≤ most) := by
  have low : ∀ (h : Nat) (code : BoundsCode), optIdx lo h 0 = some l → ((vlo = none ∧ l = 0) ∨ ∃ v, vlo = some v ∧ (Instr.sliceBound v h code).run P w = .ok l w) ∧ l ≤ h := by
    intro h code e
    cases lo with
    | none => simp only [RelO] at rl; subst rl; simp [optIdx] at e; subst e; exact ⟨.inl ⟨rfl, rfl⟩, Nat.zero_le _⟩
    | some i =>
      obtain ⟨u, rfl, r⟩ := rl
      have e' : optIdx (some i) h 0 = some l := by cases i <;> (first | exact e | exact absurd e (by simp [optIdx]))
      obtain ⟨p, q⟩ := sliceBound_ok (P := P) (w := w) e' r h (Nat.le_refl _) code
      exact ⟨.inr ⟨u, rfl, p⟩, q⟩
  cases mx with
  | some mi =>
    obtain ⟨um, rfl, rm⟩ := rm
    simp only [bounds, Option.bind_eq_some_iff] at hb
    obtain ⟨mm, h1, hb⟩ := hb
    cases hi with
    | none => cases hb
    | some hi =>
      obtain ⟨uh, rfl, rh⟩ := rh
      simp only [Option.bind_eq_some_iff, Option.map_eq_some_iff, Prod.mk.injEq] at hb
      obtain ⟨hh, h2, ll, h3, rfl, rfl, rfl⟩ := hb
      obtain ⟨p1, q1⟩ := sliceBound_ok (P := P) (w := w) h1 rm cap hm (if isSlice then .slice3Acap else .slice3Alen)
      obtain ⟨p2, q2⟩ := sliceBound_ok (P := P) (w := w) h2 rh mm (Nat.le_refl _) .slice3B
      obtain ⟨p3, q3⟩ := low hh .slice3C h3
      refine ⟨?_, q3, by omega, fun k e => by cases e; exact ⟨q2, q1⟩⟩
      simp only [Instr.sliceBounds, Sem.run_bind, p1, p2, Result.andThen_ok, Option.isSome_some, if_true]
      rcases p3 with ⟨rfl, rfl⟩ | ⟨v, rfl, p3⟩
      · simp
      · simp [p3]
  | none =>
    simp only [RelO] at rm; subst rm
    simp only [bounds, Option.bind_eq_some_iff, Option.map_eq_some_iff, Prod.mk.injEq] at hb
    obtain ⟨hh, h2, ll, h3, rfl, rfl, rfl⟩ := hb
    obtain ⟨p3, q3⟩ := low hh .sliceB h3
    cases hi with
    | none =>
      simp only [RelO] at rh; subst rh
      simp [optIdx] at h2; subst h2
      refine ⟨?_, q3, hl, fun k e => by cases e⟩
      simp only [Instr.sliceBounds, Sem.run_bind, Sem.run_pure, Result.andThen_ok, Option.isSome_none, Bool.false_eq_true, if_false]
      rcases p3 with ⟨rfl, rfl⟩ | ⟨v, rfl, p3⟩
      · simp
      · simp [p3]
    | some hi =>
      obtain ⟨uh, rfl, rh⟩ := rh
      have e' : optIdx (some hi) most 0 = some hh := by cases hi <;> (first | exact h2 | exact absurd h2 (by simp [optIdx]))
      obtain ⟨p2, q2⟩ := sliceBound_ok (P := P) (w := w) e' rh cap hm (if isSlice then .sliceAcap else .sliceAlen)
      refine ⟨?_, q3, q2, fun k e => by cases e⟩
      simp only [Instr.sliceBounds, Sem.run_bind, Sem.run_pure, p2, Result.andThen_ok, Option.isSome_none, Bool.false_eq_true, if_false]
      rcases p3 with ⟨rfl, rfl⟩ | ⟨v, rfl, p3⟩
      · simp
      · simp [p3]

theorem RowsAt.sub {sz : Nat} : ∀ {rows : List AV} {b off : Nat} (l h : Nat), RowsAt G sz rows b off → RowsAt G sz ((rows.take h).drop l) b (off + l * sz)
  | [], b, off, l, h, _ => by simp [RowsAt]
  | .agg cs :: rs, b, off, l, 0, _ => by simp [RowsAt]
  | .agg cs :: rs, b, off, 0, h + 1, k => by
    simp only [RowsAt] at k
    have := k.2.2.sub 0 h
    simp only [List.drop_zero, Nat.zero_mul, Nat.add_zero] at this ⊢
    simp only [List.take_succ_cons, RowsAt]
    exact ⟨k.1, k.2.1, this⟩
  | .agg cs :: rs, b, off, l + 1, h + 1, k => by
    simp only [RowsAt] at k
    have := k.2.2.sub l h
    simp only [List.take_succ_cons, List.drop_succ_cons]
    rw [show off + (l + 1) * sz = off + sz + l * sz by rw [Nat.succ_mul]; omega]
    exact this
  | .bool _ :: _, _, _, _, _, k | .int .. :: _, _, _, _, _, k | .str _ :: _, _, _, _, _, k | .ptr .. :: _, _, _, _, _, k | .nilptr :: _, _, _, _, _, k | .eptr .. :: _, _, _, _, _, k | .lst .. :: _, _, _, _, _, k
  | .sl .. :: _, _, _, _, _, k | .map _ :: _, _, _, _, _, k | .nilmap :: _, _, _, _, _, k | .func .. :: _, _, _, _, _, k | .yld _ :: _, _, _, _, _, k | .nilfunc :: _, _, _, _, _, k | .iface .. :: _, _, _, _, _, k
  | .niliface :: _, _, _, _, _, k | .tup _ :: _, _, _, _, _, k | .junk :: _, _, _, _, _, k => by simp [RowsAt] at k

theorem blt_no {l h : Nat} (q : l.blt h = false) : ¬ l < h := fun k => by
  have : l.blt h = true := by simpa [Nat.blt_eq] using k
  rw [q] at this; cases this

theorem slTo_rel {o off l h sz b m : Nat} {cap : Option Nat} (hg : G.obj o = .at b) (hlh : l ≤ h) (hhm : h ≤ m) (hc : ∀ k, cap = some k → m - l = k)
    (hn : cap = none → off = 0 ∧ l = 0 ∧ m * sz = G.room o) :
    Rel G (slTo o off l h cap sz) (.slice (some (if m = l then ⟨b, off, none⟩ else (⟨b, off, none⟩ : Addr).add (l * sz))) (h - l) (m - l)) := by
  unfold slTo
  cases hb : (Nat.beq l 0 || Nat.blt l h)
  · simp only [cond_false, Rel]
    simp only [Bool.or_eq_false_iff] at hb
    have hb2 := blt_no hb.2
    have : h = l := by omega
    subst this
    refine ⟨some (if m = h then ⟨b, off, none⟩ else (⟨b, off, none⟩ : Addr).add (h * sz)), m - h, by simp, by simp, trivial, .inl ⟨trivial, ?_⟩⟩
    intro x e; cases e
    split
    · rfl
    · exact addr_spot rfl _
  · simp only [cond_true, Rel, hg]
    refine ⟨m - l, ?_, by omega, hc, fun e => by obtain ⟨q1, q2, q3⟩ := hn e; subst q1 q2; exact ⟨by simp, by simpa using q3⟩⟩
    by_cases q : l = 0
    · subst q; simp [Addr.add]
    · have hlt : l < h := by
        simp only [Bool.or_eq_true] at hb
        rcases hb with hb | hb
        · exact (q (by simpa using hb)).elim
        · simpa [Nat.blt_eq] using hb
      rw [if_neg (by omega), add_lit]

theorem slTo_dead {o off l h sz m : Nat} {x : Addr} {cap : Option Nat} (hg : G.obj o = .dead) (hlh : l ≤ h) (hhm : h ≤ m) (hs : x.spot = none) :
    Rel G (slTo o off l h cap sz) (.slice (some (if m = l then x else x.add (l * sz))) (h - l) (m - l)) := by
  have sp : (if m = l then x else x.add (l * sz)).spot = none := by
    split
    · exact hs
    · exact addr_spot hs _
  unfold slTo
  cases hb : (Nat.beq l 0 || Nat.blt l h)
  · simp only [cond_false, Rel]
    simp only [Bool.or_eq_false_iff] at hb
    have hb2 := blt_no hb.2
    have : h = l := by omega
    subst this
    refine ⟨some (if m = h then x else x.add (h * sz)), m - h, by simp, by simp, trivial, .inl ⟨trivial, ?_⟩⟩
    intro y e; cases e
    exact sp
  · simp only [cond_true, Rel, hg]
    exact ⟨_, _, rfl, by omega, sp⟩

theorem TipOk.cut {st : Tip} {a : Option Addr} {n cap sz l h m : Nat} (three all left : Bool) (t : TipOk G st a n cap sz) (hn : n ≤ cap) (hlh : l ≤ h) (hh : h ≤ n) (hm : three = true → m = h) (hm' : three = false → m = cap)
    (hall : all = true → h = n) (hleft : three = false → left = true → l < h) (hspot : ∀ x, a = some x → x.spot = none) (hthree : three = true → all = false) :
    TipOk G (tipCut three all left st) (if m = l then a else a.map (·.add (l * sz))) (h - l) (m - l) sz := by
  cases st
  case nil =>
    obtain ⟨rfl, rfl⟩ := t
    refine ⟨by simp, ?_⟩
    cases three
    · rw [hm' rfl]; omega
    · rw [hm rfl]; omega
  case lent => trivial
  case exact =>
    simp only [TipOk] at t
    simp only [tipCut]
    cases three
    · cases all
      · trivial
      · simp only [Bool.false_or, cond_true, TipOk]; rw [hm' rfl, hall rfl, t]
    · simp only [Bool.true_or, cond_true, TipOk]; rw [hm rfl]
  case unk =>
    simp only [tipCut]
    cases three
    · trivial
    · simp only [cond_true, TipOk]; rw [hm rfl]
  case nn =>
    simp only [tipCut]
    cases three
    · trivial
    · simp only [cond_true, TipOk]; rw [hm rfl]
  case opn tt p =>
    simp only [tipCut]
    cases three
    · cases all
      · trivial
      · cases left
        · trivial
        · simp only [Bool.and_self, cond_true, cond_false, TipOk] at t ⊢
          obtain ⟨g, e, lp, q⟩ := t
          refine ⟨g, e, lp, fun hp => ?_⟩
          obtain ⟨x, rfl, e1, e2, e3⟩ := q hp
          have l1 := hleft rfl rfl
          have l2 := hall rfl
          have l3 := hm' rfl
          subst l2 l3
          rw [if_neg (by omega)]
          refine ⟨x.add (l * sz), rfl, ?_⟩
          have hx := hspot x rfl
          have : x.add (l * sz) = ⟨x.block, x.off + l * sz, none⟩ := by
            obtain ⟨xb, xo, xs⟩ := x
            simp at hx; subst hx
            rw [add_lit]
          rw [this]
          refine ⟨e1, ?_, ?_⟩
          · rw [← e2, Nat.add_assoc, ← Nat.add_mul, Nat.add_sub_cancel' (by omega)]
          · rw [← e3, Nat.add_assoc, ← Nat.add_mul, Nat.add_sub_cancel' (by omega)]
    · simp only [cond_true, TipOk]; rw [hm rfl]

theorem lst_cut {st st' : Tip} {sz sz' l h m cap : Nat} {rows : List AV} {a : Option Addr} (hsz : (rows.isEmpty || Nat.beq sz sz') = true) (hlh : l ≤ h) (hh : h ≤ rows.length) (hhm : h ≤ m) (hmc : m ≤ cap)
    (r : (rows = [] ∧ ∀ x, a = some x → x.spot = none) ∨ ∃ b off, a = some ⟨b, off, none⟩ ∧ RowsAt G sz' rows b off ∧ (st = .lent ∨ G.lent b = false)) (hst : st = .lent → st' = .lent)
    (t : TipOk G st' (if m = l then a else a.map (·.add (l * sz'))) (h - l) (m - l) sz') :
    Rel G (.lst st' sz' ((rows.take h).drop l)) (.slice (if m = l then a else a.map (·.add (l * sz'))) (h - l) (m - l)) := by
  have hlen : ((rows.take h).drop l).length = h - l := by simp; omega
  simp only [Rel]
  refine ⟨_, _, by rw [hlen], by omega, by rw [hlen]; exact t, ?_⟩
  have hspot : ∀ x, a = some x → x.spot = none := by
    rcases r with ⟨_, r⟩ | ⟨b, off, rfl, _, _⟩
    · exact r
    · intro x e; cases e; rfl
  by_cases q : l = h
  · left
    refine ⟨by apply List.eq_nil_of_length_eq_zero; omega, ?_⟩
    intro x e
    split at e
    · exact hspot x e
    · rw [Option.map_eq_some_iff] at e
      obtain ⟨y, e, rfl⟩ := e
      exact addr_spot (hspot y e) _
  · right
    rcases r with ⟨rfl, r⟩ | ⟨b, off, rfl, r, rlent⟩
    · simp at hh; omega
    · have hne : rows.isEmpty = false := by
        cases rows
        · simp at hh; omega
        · rfl
      simp [hne] at hsz
      subst hsz
      refine ⟨b, off + l * sz, ?_, r.sub l h, rlent.elim (fun q => .inl (hst q)) .inr⟩
      rw [if_neg (by omega)]
      simp [add_lit]

theorem bytes_extract (s : List UInt8) (l h : Nat) : ByteArray.extract ⟨s.toArray⟩ l h = ⟨((s.take h).drop l).toArray⟩ := by
  apply ByteArray.ext
  rw [ByteArray.data_extract]
  simp [List.drop_take]

def capTo (m cap : Option Nat) (l : Nat) : Option Nat := match m with | some m => some (m - l) | none => cap.map (· - l)

theorem beq_of_sz {a b : Nat} (h : Nat.beq a b = true) : a = b := by simpa using h

theorem tipE_ok {G : Gh} {ne emp : Bool} {t : Tip} {a : Option Addr} {len cap sz : Nat} (h : TipOk G t a len cap sz) (hn : ne = true → a ≠ none) : TipOk G (tipE ne emp t) a len cap sz := by
  cases t <;> try exact h
  unfold tipE
  simp only
  cases ne
  · exact h
  · cases emp
    · exact h
    · exact hn rfl

theorem sliceS_ok {t el : TypeId} (hu : P.underlying t = some (.slice el)) (he : (P.info? el).isSome = true) {x v : AV} {xv : Value} {lo hi mx : Option AV} {vlo vhi vmx : Option Value}
    (hx : sliceV x = true) (h : oSlice none (sizeT P el) x lo hi mx = some v) (rx : Rel G x xv) (rl : RelO G lo vlo) (rh : RelO G hi vhi) (rm : RelO G mx vmx) :
    ∃ u, (Instr.sliceAt t xv vlo vhi vmx).run P w = .ok u w ∧ Rel G v u := by
  obtain ⟨inf, hi'⟩ := isSome_get he
  have go : ∀ (a : Option Addr) (len cap l h m : Nat), (Instr.sliceBounds true len cap vlo vhi vmx).run P w = .ok (l, h, m) w →
      (Instr.sliceAt t (.slice a len cap) vlo vhi vmx).run P w = .ok (.slice (if m = l then a else a.map (·.add (l * P.cellsOf el))) (h - l) (m - l)) w := by
    intro a len cap l h m k
    simp [Instr.sliceAt, Instr.slice, run_underlying hu, k, run_sizeOf w hi']
  cases x <;> simp [sliceV] at hx <;> simp only [oSlice] at h
  case lst st sz' rows =>
    cases hg : (rows.isEmpty || Nat.beq (sizeT P el) sz')
    · simp [hg] at h
    · simp only [hg, cond_true, Option.bind_eq_some_iff] at h
      obtain ⟨⟨l, hh, m⟩, hb, h⟩ := h
      simp only [Rel] at rx
      obtain ⟨a, cap, rfl, hlc, ht, hr⟩ := rx
      obtain ⟨hrun, hlh, hhr, hmk⟩ := bounds_ok (P := P) (w := w) hb (Nat.le_refl _) hlc rl rh rm true
      have hspot : ∀ x, a = some x → x.spot = none := by
        rcases hr with ⟨_, r⟩ | ⟨b, off, rfl, _⟩
        · exact r
        · intro x e; cases e; rfl
      have same : (if m.getD cap = l then a else a.map (·.add (l * P.cellsOf el))) = (if m.getD cap = l then a else a.map (·.add (l * sz'))) := by
        by_cases hl : l = 0
        · subst hl; simp
        · have : rows.isEmpty = false := by
            cases rows
            · simp at hhr; omega
            · rfl
          simp [this] at hg
          rw [← hg]; rfl
      refine ⟨_, go _ _ _ _ _ _ hrun, ?_⟩
      rw [same]
      cases m with
      | some m =>
        simp only [Option.getD_some] at same ⊢
        cases q : Nat.beq m hh
        · simp [q] at h
        · simp [q] at h; subst h
          have q : m = hh := by simpa using q
          subst q
          exact lst_cut (st := st) (sz := sizeT P el) hg hlh hhr (Nat.le_refl _) (by omega) hr (fun q => by subst q; rfl) (ht.cut true false true hlc hlh hhr (fun _ => rfl) (by simp) (by simp) (by simp) hspot (by simp))
      | none =>
        simp at h; subst h
        simp only [Option.getD_none]
        exact lst_cut (st := st) (sz := sizeT P el) hg hlh hhr (by omega) (Nat.le_refl _) hr (fun q => by subst q; rfl) (tipE_ok (ht.cut false _ _ hlc hlh hhr (by simp) (fun _ => rfl) (fun q => by simpa using q) (fun _ q => by simpa [Nat.blt_eq] using q) hspot (by simp)) fun q => by
          rcases hr with ⟨rfl, _⟩ | ⟨b, off, rfl, _⟩
          · simp at q
          · split <;> simp)
  case sl o off len cap sz' =>
    cases hg : Nat.beq (sizeT P el) sz'
    · simp [hg] at h
    · simp only [hg, cond_true, Option.bind_eq_some_iff] at h
      obtain ⟨⟨l, hh, m⟩, hb, h⟩ := h
      have hv : v = slTo o off l hh (capTo m cap l) (sizeT P el) ∧ (m = none → cap = none → l = 0) := by
        cases m with
        | none =>
          simp only at h
          cases hq : (cap.isSome || Nat.beq l 0)
          · simp [hq] at h
          · simp [hq] at h
            refine ⟨by simp [h, capTo], fun _ e => ?_⟩
            subst e; simpa using hq
        | some m => simp at h; exact ⟨by simp [h, capTo], by simp⟩
      obtain ⟨hv, hl0⟩ := hv
      subst hv
      simp only [Rel] at rx
      cases hgo : G.obj o with
      | un => simp [hgo] at rx
      | «at» b =>
        simp only [hgo] at rx
        obtain ⟨c, rfl, hlc, hc⟩ := rx
        obtain ⟨hrun, hlh, hhr, hmk⟩ := bounds_ok (P := P) (w := w) hb (Nat.le_refl _) hlc rl rh rm true
        refine ⟨_, go _ _ _ _ _ _ hrun, ?_⟩
        have hhm : hh ≤ m.getD c := by
          cases m with
          | none => simp; omega
          | some k => exact (hmk k rfl).1
        have := slTo_rel (G := G) (off := off) (sz := sizeT P el) (m := m.getD c) (cap := capTo m cap l) hgo hlh
          hhm (by
            intro k e
            cases m with
            | some m => simpa [capTo] using e
            | none =>
              simp only [capTo, Option.map_eq_some_iff] at e
              obtain ⟨a, e, rfl⟩ := e
              simp [hc.1 _ e]) (by
            intro e
            cases m with
            | some m => simp [capTo] at e
            | none =>
              simp only [capTo, Option.map_eq_none_iff] at e
              have z := beq_of_sz hg
              subst z
              obtain ⟨q1, q2⟩ := hc.2 e
              exact ⟨q1, hl0 rfl e, q2⟩)
        simpa [sizeT, apply_ite] using this
      | dead =>
        simp only [hgo] at rx
        obtain ⟨x, c, rfl, hlc, hs⟩ := rx
        obtain ⟨hrun, hlh, hhr, hmk⟩ := bounds_ok (P := P) (w := w) hb (Nat.le_refl _) hlc rl rh rm true
        refine ⟨_, go _ _ _ _ _ _ hrun, ?_⟩
        have hhm : hh ≤ m.getD c := by
          cases m with
          | none => simp; omega
          | some k => exact (hmk k rfl).1
        have := slTo_dead (G := G) (off := off) (sz := sizeT P el) (m := m.getD c) (cap := capTo m cap l) hgo hlh
          hhm hs
        simpa [sizeT, apply_ite] using this

theorem sliceA_ok {t el : TypeId} {n : Nat} (hu : P.underlying t = some (.array n el)) (he : (P.info? el).isSome = true) {x v : AV} {xv : Value} {lo hi mx : Option AV} {vlo vhi vmx : Option Value}
    (hx : ptrV x = true) (h : oSlice (some n) (sizeT P el) x lo hi mx = some v) (rx : Rel G x xv) (rl : RelO G lo vlo) (rh : RelO G hi vhi) (rm : RelO G mx vmx) :
    ∃ u, (Instr.sliceAt t xv vlo vhi vmx).run P w = .ok u w ∧ Rel G v u := by
  obtain ⟨inf, hi'⟩ := isSome_get he
  cases x <;> simp [ptrV] at hx <;> simp only [oSlice] at h
  rename_i o off
  simp only [Option.map_eq_some_iff] at h
  obtain ⟨⟨l, hh, m⟩, hb, rfl⟩ := h
  obtain ⟨hrun, hlh, hhr, hmk⟩ := bounds_ok (P := P) (w := w) hb (Nat.le_refl _) (Nat.le_refl _) rl rh rm false
  have go : ∀ (a : Addr), (Instr.sliceAt t (.pointer (some a)) vlo vhi vmx).run P w = .ok (.slice (some (if m.getD n = l then a else a.add (l * P.cellsOf el))) (hh - l) (m.getD n - l)) w := by
    intro a
    simp [Instr.sliceAt, Instr.sureAddr, run_underlying hu, hrun, run_sizeOf w hi']
  have hhm : hh ≤ m.getD n := by
    cases m with
    | none => simpa using hhr
    | some k => exact (hmk k rfl).1
  simp only [Rel] at rx
  cases hgo : G.obj o with
  | un => simp [hgo] at rx
  | «at» b =>
    simp only [hgo] at rx
    subst rx
    exact ⟨_, go _, slTo_rel hgo hlh hhm (by intro k e; simpa using e) (by intro e; cases e)⟩
  | dead =>
    simp only [hgo] at rx
    obtain ⟨x, rfl, hs⟩ := rx
    exact ⟨_, go _, slTo_dead hgo hlh hhm hs⟩

theorem sliceT_ok {t : TypeId} (hu : P.underlying t = some .string) {x v : AV} {xv : Value} {lo hi mx : Option AV} {vlo vhi vmx : Option Value}
    (hx : strV x = true) (h : oSlice none 1 x lo hi mx = some v) (rx : Rel G x xv) (rl : RelO G lo vlo) (rh : RelO G hi vhi) (rm : RelO G mx vmx) :
    ∃ u, (Instr.sliceAt t xv vlo vhi vmx).run P w = .ok u w ∧ Rel G v u := by
  cases x <;> simp [strV] at hx <;> simp only [oSlice] at h
  rename_i s
  simp only [Option.bind_eq_some_iff] at h
  obtain ⟨⟨l, hh, m⟩, hb, h⟩ := h
  cases m with
  | some m => simp at h
  | none =>
    simp at h; subst h
    have hmx : mx = none := by
      cases mx with
      | none => rfl
      | some mi =>
        simp only [bounds, Option.bind_eq_some_iff] at hb
        obtain ⟨mm, h1, hb⟩ := hb
        cases hi with
        | none => cases hb
        | some hi => simp [Option.bind_eq_some_iff, Option.map_eq_some_iff] at hb
    subst hmx
    simp only [RelO] at rm; subst rm
    simp only [Rel] at rx; subst rx
    obtain ⟨hrun, hlh, hhr, hmk⟩ := bounds_ok (P := P) (w := w) (vmx := none) hb (Nat.le_refl _) (Nat.le_refl _) rl rh rfl false
    refine ⟨_, ?_, rfl⟩
    have hsz : ByteArray.size ⟨s.toArray⟩ = s.length := by simp [ByteArray.size]
    simp [Instr.sliceAt, Instr.slice, run_underlying hu, hsz, hrun, bytes_extract]

end
end Go.Sac
