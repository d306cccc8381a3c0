/- Operations that leave the state alone: numbers, strings, equality. -/
import Derived.Test.YtippafigppeblaaGreatSacH
namespace Go.Sac
set_option linter.unusedVariables false
set_option linter.unusedSimpArgs false
open Go

section
variable {P : Program} {G : Gh} {S : St} {w : World}

theorem bytes_toList (s : List UInt8) : ByteArray.toList ⟨s.toArray⟩ = s := by rw [ByteArray.toList_eq]

theorem bytes_beq (s u : List UInt8) : ((⟨s.toArray⟩ : ByteArray) == ⟨u.toArray⟩) = (s == u) := by
  rw [beq_toListBytes, bytes_toList, bytes_toList]

def kindV : TypeDesc → Value → Bool → Prop
  | .pointer _, v, r => ∃ p, v = .pointer p ∧ p.isNone = r
  | .slice _, v, r => ∃ p n c, v = .slice p n c ∧ p.isNone = r
  | .map .., v, r => ∃ p, v = .map p ∧ p.isNone = r
  | .func .., v, r => (v = .nilFunc ∧ r = true) ∨ ∃ f a c, v = .func f a c ∧ r = false
  | .interface _, v, r => (v = .nilIface ∧ r = true) ∨ ∃ t u, v = .iface t u ∧ r = false
  | _, _, _ => False

theorem kind_rel {t : TypeId} {a : AV} {v : Value} {r : Bool} (hk : kindOk P t a = true) (hn : isNilA a = some r) (ra : Rel G a v) : ∃ d, P.underlying t = some d ∧ kindV d v r := by
  unfold kindOk at hk
  cases hu : P.underlying t with
  | none => rw [hu] at hk; cases a <;> simp at hk
  | some d =>
    rw [hu] at hk
    refine ⟨d, rfl, ?_⟩
    cases d <;> cases a <;> simp at hk <;> simp only [kindV]
    case pointer.ptr e o off =>
      simp [isNilA] at hn; subst hn
      simp only [Rel] at ra
      split at ra
      · exact ⟨_, ra, rfl⟩
      · obtain ⟨x, rfl, _⟩ := ra; exact ⟨_, rfl, rfl⟩
      · exact ra.elim
    case pointer.nilptr => simp [isNilA] at hn; subst hn; simp only [Rel] at ra; exact ⟨_, ra, rfl⟩
    case pointer.eptr => simp [isNilA] at hn; subst hn; simp only [Rel] at ra; obtain ⟨_, _, rfl, _⟩ := ra; exact ⟨_, rfl, rfl⟩
    case slice.lst e st sz rows =>
      simp only [Rel] at ra
      obtain ⟨p, c, rfl, hl, ht, hr⟩ := ra
      refine ⟨_, _, _, rfl, ?_⟩
      have gen : (bif rows.isEmpty then none else some false) = some r → p.isNone = r := by
        intro h
        cases rows with
        | nil => simp at h
        | cons x xs =>
          simp at h; subst h
          rcases hr with ⟨q, _⟩ | ⟨b, off, rfl, _⟩
          · cases q
          · rfl
      cases st <;> simp only [isNilA] at hn
      case nil => simp at hn; subst hn; rw [ht.1]; rfl
      case nn => simp at hn; subst hn; cases p with
        | none => exact absurd rfl ht
        | some _ => rfl
      all_goals exact gen hn
    case slice.sl e o off len cap sz =>
      simp [isNilA] at hn; subst hn
      simp only [Rel] at ra
      split at ra
      · obtain ⟨c, rfl, _⟩ := ra; exact ⟨_, _, _, rfl, rfl⟩
      · obtain ⟨x, c, rfl, _⟩ := ra; exact ⟨_, _, _, rfl, rfl⟩
      · exact ra.elim
    case map.map k e o =>
      simp [isNilA] at hn; subst hn
      simp only [Rel] at ra
      split at ra
      · exact ⟨_, ra, rfl⟩
      · obtain ⟨x, rfl⟩ := ra; exact ⟨_, rfl, rfl⟩
      · exact ra.elim
    case map.nilmap => simp [isNilA] at hn; subst hn; simp only [Rel] at ra; exact ⟨_, ra, rfl⟩
    case func.func => simp [isNilA] at hn; subst hn; simp only [Rel] at ra; obtain ⟨_, _, rfl, _⟩ := ra; exact .inr ⟨_, _, _, rfl, rfl⟩
    case func.yld =>
      simp [isNilA] at hn; subst hn
      simp only [Rel] at ra
      split at ra
      · exact .inr ⟨_, _, _, ra, rfl⟩
      · obtain ⟨x, rfl⟩ := ra; exact .inr ⟨_, _, _, rfl, rfl⟩
      · exact ra.elim
    case func.nilfunc => simp [isNilA] at hn; subst hn; simp only [Rel] at ra; exact .inl ⟨ra, rfl⟩
    case interface.iface => simp [isNilA] at hn; subst hn; simp only [Rel] at ra; obtain ⟨_, rfl, _⟩ := ra; exact .inr ⟨_, _, rfl, rfl⟩
    case interface.niliface => simp [isNilA] at hn; subst hn; simp only [Rel] at ra; exact .inl ⟨ra, rfl⟩

theorem eq_nil_right {d : TypeDesc} {t : TypeId} (hu : P.underlying t = some d) {v u : Value} {r : Bool} (h : kindV d v r) (k : kindV d u true) (n : Nat) (w : World) : (Op.equalIn (n + 1) t v u).run P w = .ok r w := by
  simp only [Op.equalIn, Sem.run_bind, run_underlying hu, Result.andThen_ok]
  cases d <;> simp only [kindV] at h k
  case pointer =>
    obtain ⟨p, rfl, rfl⟩ := h
    obtain ⟨q, rfl, hq⟩ := k
    cases q <;> simp at hq
    cases p <;> rfl
  case slice =>
    obtain ⟨p, _, _, rfl, rfl⟩ := h
    obtain ⟨q, _, _, rfl, hq⟩ := k
    cases q <;> simp at hq
    cases p <;> rfl
  case map =>
    obtain ⟨p, rfl, rfl⟩ := h
    obtain ⟨q, rfl, hq⟩ := k
    cases q <;> simp at hq
    cases p <;> rfl
  case func =>
    rcases k with ⟨rfl, _⟩ | ⟨_, _, _, _, hq⟩
    · rcases h with ⟨rfl, rfl⟩ | ⟨_, _, _, rfl, rfl⟩ <;> rfl
    · cases hq
  case interface =>
    rcases k with ⟨rfl, _⟩ | ⟨_, _, _, hq⟩
    · rcases h with ⟨rfl, rfl⟩ | ⟨_, _, rfl, rfl⟩ <;> rfl
    · cases hq

theorem eq_nil_left {d : TypeDesc} {t : TypeId} (hu : P.underlying t = some d) {v u : Value} {r : Bool} (h : kindV d v r) (k : kindV d u true) (n : Nat) (w : World) : (Op.equalIn (n + 1) t u v).run P w = .ok r w := by
  simp only [Op.equalIn, Sem.run_bind, run_underlying hu, Result.andThen_ok]
  cases d <;> simp only [kindV] at h k
  case pointer =>
    obtain ⟨p, rfl, rfl⟩ := h
    obtain ⟨q, rfl, hq⟩ := k
    cases q <;> simp at hq
    cases p <;> rfl
  case slice =>
    obtain ⟨p, _, _, rfl, rfl⟩ := h
    obtain ⟨q, _, _, rfl, hq⟩ := k
    cases q <;> simp at hq
    cases p <;> rfl
  case map =>
    obtain ⟨p, rfl, rfl⟩ := h
    obtain ⟨q, rfl, hq⟩ := k
    cases q <;> simp at hq
    cases p <;> rfl
  case func =>
    rcases k with ⟨rfl, _⟩ | ⟨_, _, _, _, hq⟩
    · rcases h with ⟨rfl, rfl⟩ | ⟨_, _, _, rfl, rfl⟩ <;> rfl
    · cases hq
  case interface =>
    rcases k with ⟨rfl, _⟩ | ⟨_, _, _, hq⟩
    · rcases h with ⟨rfl, rfl⟩ | ⟨_, _, rfl, rfl⟩ <;> rfl
    · cases hq

/-- What the model does for '==' and '!='. -/
def EqRun (P : Program) (w : World) (t : TypeId) (x y : Operand) (va vb : Value) (r : Bool) : Prop :=
  (do eqGuard .eql t x y va vb; binOp .eql t va vb).run P w = .ok (.bool r) w ∧ (do eqGuard .neq t x y va vb; binOp .neq t va vb).run P w = .ok (.bool !r) w

theorem isNilConst_nil {x : Operand} {e : Env} (h : isNilConst x = true) : isNilA (e.ev x) = some true := by
  unfold isNilConst at h
  split at h <;> first | rfl | cases h

theorem isNilConst_const {x : Operand} (h : isNilConst x = true) : ∃ v, x = .const v := by
  unfold isNilConst at h
  split at h <;> first | exact ⟨_, rfl⟩ | cases h

theorem eqRun_nil {t : TypeId} {x y : Operand} {d : TypeDesc} (hu : P.underlying t = some d) {va vb : Value} {r ra rb : Bool} (ha : kindV d va ra) (hb : kindV d vb rb) (hc : (∃ v, x = .const v) ∨ ∃ v, y = .const v)
    (he : ∀ n w, (Op.equalIn (n + 1) t va vb).run P w = .ok r w) : EqRun P w t x y va vb r := by
  have h1 : (Op.equal t va vb).run P w = .ok r w := he 9999 w
  cases d <;> simp only [kindV] at ha hb
  case pointer =>
    obtain ⟨p, rfl, _⟩ := ha; obtain ⟨q, rfl, _⟩ := hb
    refine ⟨?_, ?_⟩ <;> simp [eqGuard, binOp, h1]
  case slice =>
    obtain ⟨p, _, _, rfl, _⟩ := ha; obtain ⟨q, _, _, rfl, _⟩ := hb
    refine ⟨?_, ?_⟩ <;> simp [eqGuard, binOp, h1]
  case map =>
    obtain ⟨p, rfl, _⟩ := ha; obtain ⟨q, rfl, _⟩ := hb
    refine ⟨?_, ?_⟩ <;> simp [eqGuard, binOp, h1]
  case func =>
    rcases ha with ⟨rfl, _⟩ | ⟨_, _, _, rfl, _⟩ <;> rcases hb with ⟨rfl, _⟩ | ⟨_, _, _, rfl, _⟩ <;> refine ⟨?_, ?_⟩ <;> simp [eqGuard, binOp, h1]
  case interface =>
    rcases ha with ⟨rfl, _⟩ | ⟨_, _, rfl, _⟩ <;> rcases hb with ⟨rfl, _⟩ | ⟨_, _, rfl, _⟩ <;> rcases hc with ⟨c, rfl⟩ | ⟨c, rfl⟩ <;> refine ⟨?_, ?_⟩ <;> simp [eqGuard, binOp, h1]

theorem eql_ok {t : TypeId} {x y : Operand} {e : Env} {ρ : Operand → Value} (ev : EvOk G e ρ) {r : Bool} (h : oEql P t x y (e.ev x) (e.ev y) = some r) : EqRun P w t x y (ρ x) (ρ y) r := by
  unfold oEql at h
  cases hy : isNilConst y
  · simp only [hy, cond_false] at h
    cases hx : isNilConst x
    · simp only [hx, cond_false] at h
      have ra := ev x
      have rb := ev y
      revert h ra rb
      generalize e.ev x = a
      generalize e.ev y = b
      generalize ρ x = va
      generalize ρ y = vb
      intro h ra rb
      split at h
      · rename_i as bs
        split at h
        · rename_i ds hd
          cases hh : (isAggT P t && okScs ds as && okScs ds bs && !P.eqGuardType P.depth t)
          · simp [hh] at h
          · simp only [hh, cond_true] at h
            simp only [Bool.and_eq_true, Bool.not_eq_true'] at hh
            obtain ⟨⟨⟨hg, h1⟩, h2⟩, h3⟩ := hh
            simp only [Rel] at ra rb
            obtain ⟨xs, rfl, ra⟩ := ra
            obtain ⟨ys, rfl, rb⟩ := rb
            have e1 : (Op.equal t (.agg xs) (.agg ys)).run P w = .ok r w := by
              have := eqOk (P := P) 20 t ds xs.toList ys.toList r hd (okScs_rel h1 ra) (okScs_rel h2 rb) (eqCells_rel h ra rb) 9980 w
              simpa [Op.equal, Op.maxDepth, mkV, hg] using this
            refine ⟨?_, ?_⟩ <;> simp [eqGuard, binOp, e1, h3]
        · cases h
      · rename_i p q
        split at h
        · rename_i hu
          simp only [Rel] at ra rb
          subst ra rb
          have e1 : (Op.equal t (.bool p) (.bool q)).run P w = .ok r w := by
            simp at h; subst h
            simpa [Op.equal, Op.maxDepth] using run_equalIn_bool' w 9999 t p q hu
          refine ⟨?_, ?_⟩ <;> simp [eqGuard, binOp, e1]
        · cases h
      · rename_i k m k' n
        simp only [Rel] at ra rb
        subst ra rb
        unfold eqCell at h
        by_cases hk : k = k'
        · subst hk
          simp at h; subst h
          refine ⟨?_, ?_⟩ <;> simp [eqGuard, binOp, Op.intCmp]
          rfl
        · simp [hk] at h
      · rename_i s u
        simp only [Rel] at ra rb
        subst ra rb
        simp at h; subst h
        refine ⟨?_, ?_⟩ <;> simp [eqGuard, binOp, Op.stringOp, bytes_toList]
      · cases h
    · simp only [hx, cond_true] at h
      cases hk : (kindOk P t (e.ev x) && kindOk P t (e.ev y))
      · simp [hk] at h
      · simp only [hk, cond_true] at h
        simp only [Bool.and_eq_true] at hk
        obtain ⟨d, hu, ka⟩ := kind_rel hk.1 (isNilConst_nil hx) (ev x)
        obtain ⟨d', hu', kb⟩ := kind_rel hk.2 h (ev y)
        rw [hu] at hu'; cases hu'
        exact eqRun_nil hu ka kb (.inl (isNilConst_const hx)) fun n w => eq_nil_left hu kb ka n w
  · simp only [hy, cond_true] at h
    cases hk : (kindOk P t (e.ev x) && kindOk P t (e.ev y))
    · simp [hk] at h
    · simp only [hk, cond_true] at h
      simp only [Bool.and_eq_true] at hk
      obtain ⟨d, hu, ka⟩ := kind_rel hk.1 h (ev x)
      obtain ⟨d', hu', kb⟩ := kind_rel hk.2 (isNilConst_nil hy) (ev y)
      rw [hu] at hu'; cases hu'
      exact eqRun_nil hu ka kb (.inr (isNilConst_const hy)) fun n w => eq_nil_right hu ka kb n w

theorem guard_other {op : BinOp} (h : op ≠ .eql) (h' : op ≠ .neq) (t : TypeId) (x y : Operand) (a b : Value) : (eqGuard op t x y a b).run P w = .ok () w := by
  cases op <;> first | exact absurd rfl h | exact absurd rfl h' | simp [eqGuard]

theorem binInt_ok {op : BinOp} {t : TypeId} {k : IntKind} {m n : Int} {v : AV} (h : oInt op k m n = some v) (ho : op ≠ .shl ∧ op ≠ .shr) : ∃ u, (binOp op t (.int k m) (.int k n)).run P w = .ok u w ∧ Rel G v u := by
  cases op <;> simp only [oInt] at h <;> try (cases h; done)
  case quo =>
    cases hn : (n == 0)
    · simp [hn] at h; subst h
      have : n ≠ 0 := by simpa using hn
      exact ⟨_, by simp only [binOp, Op.intDiv, if_neg this, ne_eq, not_true, if_false, Sem.run_pure], rfl⟩
    · simp [hn] at h
  case rem =>
    cases hn : (n == 0)
    · simp [hn] at h; subst h
      have : n ≠ 0 := by simpa using hn
      exact ⟨_, by simp only [binOp, Op.intDiv, if_neg this, ne_eq, not_true, if_false, Sem.run_pure], rfl⟩
    · simp [hn] at h
  all_goals
    simp only [Option.some.injEq] at h; subst h
    refine ⟨_, ?_, rfl⟩
    simp only [binOp, Op.intArith, Op.intBits, Op.intCmp, ne_eq, not_true, if_false, Sem.run_pure]

theorem shift_ok {op : BinOp} {t : TypeId} {k k' : IntKind} {m n : Int} {v : AV} (h : oShift op k m n = some v) : ∃ u, (binOp op t (.int k m) (.int k' n)).run P w = .ok u w ∧ Rel G v u := by
  unfold oShift at h
  cases hn : decide (n < 0)
  · have hn : ¬ n < 0 := by simpa using hn
    simp [hn] at h
    cases op <;> simp at h <;> subst h
    · exact ⟨_, by simp [binOp, Op.shift, hn], rfl⟩
    · exact ⟨_, by simp [binOp, Op.shift, hn], rfl⟩
  · simp [hn] at h

theorem str_append (a b : List UInt8) : (⟨a.toArray⟩ : ByteArray) ++ ⟨b.toArray⟩ = ⟨(a ++ b).toArray⟩ := by
  apply ByteArray.ext
  simp [ByteArray.data_append]

theorem binStr_ok {op : BinOp} {t : TypeId} {a b : List UInt8} {v : AV} (h : oStr op a b = some v) : ∃ u, (binOp op t (.string ⟨a.toArray⟩) (.string ⟨b.toArray⟩)).run P w = .ok u w ∧ Rel G v u := by
  have h1 := bytes_toList a
  have h2 := bytes_toList b
  have h3 : ByteArray.size ⟨a.toArray⟩ = a.length := by simp [ByteArray.size]
  have h4 : ByteArray.size ⟨b.toArray⟩ = b.length := by simp [ByteArray.size]
  cases op <;> simp only [oStr] at h <;> try (cases h; done)
  case add =>
    cases hl : Nat.ble (a.length + b.length) maxStr
    · simp [hl] at h
    · simp [hl] at h; subst h
      have hl : a.length + b.length ≤ maxStr := by simpa using hl
      have : ¬ (((a.length + b.length : Nat) : Int) > IntKind.i64.max) := by
        have : IntKind.i64.max = 9223372036854775807 := by decide
        rw [this]; unfold maxStr at hl; omega
      refine ⟨_, ?_, rfl⟩
      rw [← str_append]
      simp only [binOp, Op.stringOp, h3, h4, if_neg this]; rfl
  all_goals
    simp at h; subst h
    exact ⟨_, by simp [binOp, Op.stringOp, h1, h2], rfl⟩

theorem oBin_ok {op : BinOp} {t : TypeId} {x y : Operand} {e : Env} {ρ : Operand → Value} (ev : EvOk G e ρ) {v : AV} (h : oBin P op t x y (e.ev x) (e.ev y) = some v) :
    ∃ u, (do eqGuard op t x y (ρ x) (ρ y); binOp op t (ρ x) (ρ y)).run P w = .ok u w ∧ Rel G v u := by
  by_cases h1 : op = .eql
  · subst h1
    simp only [oBin, Option.map_eq_some_iff] at h
    obtain ⟨r, h, rfl⟩ := h
    exact ⟨_, (eql_ok (w := w) ev h).1, rfl⟩
  by_cases h2 : op = .neq
  · subst h2
    simp only [oBin, Option.map_eq_some_iff] at h
    obtain ⟨r, h, rfl⟩ := h
    exact ⟨_, (eql_ok (w := w) ev h).2, rfl⟩
  have hg := guard_other (P := P) (w := w) h1 h2 t x y (ρ x) (ρ y)
  have ra := ev x
  have rb := ev y
  revert h ra rb hg
  generalize e.ev x = a
  generalize e.ev y = b
  generalize ρ x = va
  generalize ρ y = vb
  intro h0 hg ra rb
  simp only [Sem.run_bind, hg, Result.andThen_ok]
  have gen : oArith op a b = some v → op ≠ .shl → op ≠ .shr → ∃ u, (binOp op t va vb).run P w = .ok u w ∧ Rel G v u := by
    intro h s1 s2
    unfold oArith at h
    split at h
    · rename_i k m k' n
      simp only [Rel] at ra rb; subst ra rb
      by_cases hk : k = k'
      · subst hk; simp only [decide_true, cond_true] at h; exact binInt_ok h ⟨s1, s2⟩
      · simp only [decide_eq_false hk, cond_false] at h; cases h
    · simp only [Rel] at ra rb; subst ra rb
      exact binStr_ok h
    · cases h
  have sh : oShiftV op a b = some v → ∃ u, (binOp op t va vb).run P w = .ok u w ∧ Rel G v u := by
    intro h
    unfold oShiftV at h
    split at h
    · simp only [Rel] at ra rb; subst ra rb
      exact shift_ok h
    · cases h
  cases op
  case eql => exact absurd rfl h1
  case neq => exact absurd rfl h2
  case shl => exact sh h0
  case shr => exact sh h0
  all_goals exact gen h0 (by simp) (by simp)

theorem oUn_ok {op : UnOp} {a v : AV} {va : Value} (h : oUn op a = some v) (ra : Rel G a va) : ∃ u, (Op.unary op va).run P w = .ok u w ∧ Rel G v u := by
  cases op <;> cases a <;> simp only [oUn] at h <;> try (cases h; done)
  all_goals
    simp only [Rel] at ra; subst ra
    simp only [oInt, Option.some.injEq] at h; subst h
    refine ⟨_, ?_, rfl⟩
    simp only [Op.unary, Op.intArith, Op.intBits, Sem.run_pure]

theorem maxmin_fold (isMax : Bool) : ∀ (l : List AV) (a v : AV) (va : Value) (vs : List Value), maxmin isMax (a :: l) = some v → Rel G a va → RelL G l vs →
    ∃ u, (vs.foldlM (if isMax then Builtin.max2 else Builtin.min2) va).run P w = .ok u w ∧ Rel G v u
  | [], a, v, va, vs, h, ra, rl => by
    simp only [RelL] at rl; subst rl
    cases a <;> simp [maxmin] at h
    subst h
    exact ⟨_, rfl, ra⟩
  | b :: l, a, v, va, vs, h, ra, rl => by
    obtain ⟨vb, vs, rfl, rb, rl⟩ := rl
    cases a <;> try (simp [maxmin] at h; done)
    rename_i k m
    cases b <;> try (simp [maxmin] at h; done)
    rename_i k' n
    rw [maxmin] at h
    by_cases hk : k = k'
    · subst hk
      simp only [decide_true, cond_true] at h
      simp only [Rel] at ra rb; subst ra rb
      obtain ⟨u, p, q⟩ := maxmin_fold isMax l _ v _ vs h rfl rl
      refine ⟨u, ?_, q⟩
      rw [List.foldlM_cons, Sem.run_bind]
      cases isMax
      · simpa [Builtin.min2] using p
      · simpa [Builtin.max2] using p
    · simp [hk] at h

theorem maxmin_ok {isMax : Bool} {l : List AV} {v : AV} {vs : Array Value} (h : maxmin isMax l = some v) (r : RelL G l vs.toList) (ts : Array TypeId) (t : TypeId) :
    ∃ u, (if isMax then Builtin.max_ ts t vs else Builtin.min_ ts t vs).run P w = .ok u w ∧ Rel G v u := by
  cases l with
  | nil => simp [maxmin] at h
  | cons a l =>
    obtain ⟨va, us, e, ra, rl⟩ := r
    obtain ⟨u, p, q⟩ := maxmin_fold (w := w) (P := P) isMax l a v va us h ra rl
    refine ⟨u, ?_, q⟩
    cases isMax
    · simpa [Builtin.min_, e] using p
    · simpa [Builtin.max_, e] using p

end
end Go.Sac
