/- What the evaluator's walk of a region that draws its order comes to, operation by operation. -/
import Derived.Test.YtippafigppeblaaGreatSacAf
namespace Go.Sac
set_option linter.unusedVariables false
set_option linter.unusedSimpArgs false
open Go

section
variable {X : Ctx} {all : Array Oper} {before : Array Nat}

inductive Fact (X : Ctx) (all : Array Oper) (before : Array Nat) (sE : Seen) (pj : Option Nat) (j : Nat) (o : Oper) : Env → St → Env → St → Prop
  | hoi {e : Env} {S : St} : hoisted o = true → Fact X all before sE pj j o e S e S
  | mov {e : Env} {S : St} (v : AV) : hoisted o = false → movable X o = true → opOut X all o e S = some (.val v none S) →
      (∀ a Sa Sb, (a, Sa, Sb) ∈ sE.an → unord before j a = true → opOut X all o e Sa = some (.val v none Sa) ∧ opOut X all o e Sb = some (.val v none Sb)) → Fact X all before sE pj j o e S (e.put o.dst v) S
  | anc {e : Env} {S : St} (v : AV) (d : Option ADef) (S' : St) : hoisted o = false → movable X o = false → opOut X all o e S = some (.val v d S') → (j, S, S') ∈ sE.an → (∀ p, pj = some p → j < p) →
      Fact X all before sE pj j o e S (e.after v d o.dst) S'
  | pan {e : Env} {S : St} : pj = some j → hoisted o = false → movable X o = false → Fact X all before sE pj j o e S e S
  | nev {e : Env} {S : St} (p : Nat) : pj = some p → (before.getD j 0).testBit p = true → Fact X all before sE pj j o e S e S

structure Data (X : Ctx) (all : Array Oper) (before : Array Nat) (kp : AV → Env → St → R) (k : Env → St → R) (r : Ans × St) (i : Nat) (e : Env) (S : St) (s : Seen) (en : Nat → Env) (st : Nat → St) (sE : Seen) (pj : Option Nat) : Prop where
  e0 : en i = e
  s0 : st i = S
  rd : ∀ x ∈ s.rd, x ∈ sE.rd
  an : ∀ x ∈ s.an, x ∈ sE.an
  check : checkReads before sE = true
  fact : ∀ (j : Nat) (o : Oper), i ≤ j → all[j]? = some o → Fact X all before sE pj j o (en j) (st j) (en (j + 1)) (st (j + 1))
  norm : pj = none → k (en all.size) (st all.size) = some r
  pan : ∀ p, pj = some p → i ≤ p ∧ ∃ (o : Oper) (v : AV) (S' : St), all[p]? = some o ∧ hoisted o = false ∧ movable X o = false ∧ opOut X all o (en p) (st p) = some (.pan v S') ∧ kp v (en p) S' = some r

def upd {α : Type} (f : Nat → α) (i : Nat) (x : α) : Nat → α := fun m => if m = i then x else f m
theorem upd_eq {α : Type} (f : Nat → α) (i : Nat) (x : α) : upd f i x i = x := if_pos rfl
theorem upd_ne {α : Type} (f : Nat → α) {i m : Nat} (x : α) (h : m ≠ i) : upd f i x m = f m := if_neg h

theorem Data.extend {kp : AV → Env → St → R} {k : Env → St → R} {r : Ans × St} {i : Nat} {e e' : Env} {S S' : St} {s s' : Seen} {en : Nat → Env} {st : Nat → St} {sE : Seen} {pj : Option Nat}
    (h : Data X all before kp k r (i + 1) e' S' s' en st sE pj) (hi : i < all.size) (h1 : ∀ x ∈ s.rd, x ∈ s'.rd) (h2 : ∀ x ∈ s.an, x ∈ s'.an) (hf : ∀ o, all[i]? = some o → Fact X all before sE pj i o e S e' S') :
    Data X all before kp k r i e S s (upd en i e) (upd st i S) sE pj where
  e0 := upd_eq _ _ _
  s0 := upd_eq _ _ _
  rd x hx := h.rd x (h1 x hx)
  an x hx := h.an x (h2 x hx)
  check := h.check
  fact j o hj ho := by
    by_cases q : j = i
    · subst q
      rw [upd_eq, upd_eq, upd_ne _ _ (by omega), upd_ne _ _ (by omega), h.e0, h.s0]
      exact hf o ho
    · rw [upd_ne _ _ q, upd_ne _ _ q, upd_ne _ _ (by omega), upd_ne _ _ (by omega)]
      exact h.fact j o (by omega) ho
  norm q := by
    rw [upd_ne _ _ (by omega), upd_ne _ _ (by omega)]
    exact h.norm q
  pan p q := by
    obtain ⟨l, o, v, S', h1, h2, h3, h4, h5⟩ := h.pan p q
    refine ⟨by omega, o, v, S', h1, h2, h3, ?_, ?_⟩
    · rw [upd_ne _ _ (by omega), upd_ne _ _ (by omega)]; exact h4
    · rw [upd_ne _ _ (by omega)]; exact h5

theorem drop_get {l : List Oper} {i : Nat} {o : Oper} (h : all.toList.drop i = o :: l) : all[i]? = some o ∧ all.toList.drop (i + 1) = l := by
  constructor
  · have := congrArg (fun z => z[0]?) h
    simpa using this
  · have := congrArg List.tail h
    simpa using this

theorem restFine_spec {sE : Seen} {p : Nat} : ∀ (l : List Oper) (m : Nat) (e : Env) (S : St), all.toList.drop m = l → restFine X all before p l m e S = true →
    ∃ en : Nat → Env, en m = e ∧ ∀ (j : Nat) (o : Oper), m ≤ j → all[j]? = some o → Fact X all before sE (some p) j o (en j) S (en (j + 1)) S
  | [], m, e, S, hl, h => by
    refine ⟨fun _ => e, rfl, fun j o hj ho => ?_⟩
    have := get_lt ho
    have hl := congrArg List.length hl
    simp at hl
    omega
  | o :: l, m, e, S, hl, h => by
    obtain ⟨ho, hl'⟩ := drop_get hl
    have ext : ∀ (e' : Env), restFine X all before p l (m + 1) e' S = true → Fact X all before sE (some p) m o e S e' S →
        ∃ en : Nat → Env, en m = e ∧ ∀ (j : Nat) (o : Oper), m ≤ j → all[j]? = some o → Fact X all before sE (some p) j o (en j) S (en (j + 1)) S := by
      intro e' h' f
      obtain ⟨en, h1, h2⟩ := restFine_spec l (m + 1) e' S hl' h'
      refine ⟨upd en m e, upd_eq _ _ _, fun j o' hj ho' => ?_⟩
      by_cases q : j = m
      · subst q
        rw [ho] at ho'; cases ho'
        rw [upd_eq, upd_ne _ _ (by omega), h1]
        exact f
      · rw [upd_ne _ _ q, upd_ne _ _ (by omega)]
        exact h2 j o' (by omega) ho'
    simp only [restFine] at h
    cases hb : (before.getD m 0).testBit p
    · cases hh : hoisted o
      · simp only [hb, hh, Bool.or_self, cond_false] at h
        cases hp : (isPure o.op && !reads o.op)
        · rw [hp] at h; cases h
        · simp only [hp, cond_true] at h
          simp only [Bool.and_eq_true, Bool.not_eq_true'] at hp
          split at h
          · rename_i v hv
            have ho1 : opOut X all o e S = some (.val v none S) := by rw [opOut_pure hp.1]; simp only [Option.map_eq_some_iff]; exact ⟨v, hv, rfl⟩
            exact ext _ h (.mov v hh (movable_of_pure hp.1) ho1 fun a Sa Sb _ _ => ⟨opOut_still hp.1 hp.2 ho1, opOut_still hp.1 hp.2 ho1⟩)
          · cases h
      · simp only [hb, hh, Bool.or_true, cond_true] at h
        exact ext _ h (.hoi hh)
    · simp only [hb, Bool.true_or, cond_true] at h
      exact ext _ h (.nev p rfl hb)

theorem draw_spec {kp : AV → Env → St → R} {k : Env → St → R} {r : Ans × St} : ∀ (l : List Oper) (i : Nat) (e : Env) (S : St) (s : Seen), all.toList.drop i = l → i ≤ all.size → drawOps X all before l i e S s kp k = some r →
    ∃ en st sE pj, Data X all before kp k r i e S s en st sE pj
  | [], i, e, S, s, hl, hi, h => by
    have hl := congrArg List.length hl
    simp at hl
    have : i = all.size := by omega
    simp only [drawOps] at h
    cases hc : checkReads before s
    · rw [hc] at h; cases h
    · simp only [hc, cond_true] at h
      refine ⟨fun _ => e, fun _ => S, s, none, ⟨rfl, rfl, fun _ q => q, fun _ q => q, hc, fun j o hj ho => ?_, fun _ => h, fun p q => by cases q⟩⟩
      have := get_lt ho
      omega
  | o :: l, i, e, S, s, hl, hi, h => by
    obtain ⟨ho, hl'⟩ := drop_get hl
    have hlt := get_lt ho
    simp only [drawOps] at h
    cases hh : hoisted o
    · simp only [hh, cond_false] at h
      cases hp : isPure o.op
      · simp only [hp, cond_false] at h
        rw [doOp_eq] at h
        cases hout : opOut X all o e S with
        | none => rw [hout] at h; cases h
        | some q =>
          rw [hout] at h
          cases q with
          | pan v S' =>
            simp only [ooK] at h
            cases hm : movable X o
            · cases hc : checkReads before s
              · simp [hm, hc] at h
              · cases hrf : restFine X all before i l (i + 1) e S
                · simp [hm, hc, hrf] at h
                · simp only [hm, hc, hrf, Bool.not_false, Bool.and_self, cond_true] at h
                  obtain ⟨en, h1, h2⟩ := restFine_spec (sE := s) l (i + 1) e S hl' hrf
                  refine ⟨upd en i e, fun _ => S, s, some i, ⟨upd_eq _ _ _, rfl, fun _ q => q, fun _ q => q, hc, fun j o' hj ho' => ?_, (by intro q; cases q), fun p q => ?_⟩⟩
                  · by_cases q : j = i
                    · subst q
                      rw [ho] at ho'; cases ho'
                      rw [upd_eq, upd_ne _ _ (by omega), h1]
                      exact .pan rfl hh hm
                    · rw [upd_ne _ _ q, upd_ne _ _ (by omega)]
                      exact h2 j o' (by omega) ho'
                  · cases q
                    refine ⟨Nat.le_refl _, o, v, S', ho, hh, hm, ?_, ?_⟩
                    · rw [upd_eq]; exact hout
                    · rw [upd_eq]; exact h
            · simp [hm] at h
          | val v d S' =>
            simp only [ooK] at h
            cases hm : movable X o
            · simp only [hm, cond_false] at h
              obtain ⟨en, st, sE, pj, D⟩ := draw_spec l (i + 1) _ _ _ hl' hlt h
              refine ⟨_, _, sE, pj, D.extend hlt (fun _ q => q) (fun x q => List.mem_cons_of_mem _ q) fun o' ho' => ?_⟩
              rw [ho] at ho'; cases ho'
              exact .anc v d S' hh hm hout (D.an _ (List.mem_cons_self ..)) fun p q => by have := (D.pan p q).1; omega
            · simp only [hm, cond_true] at h
              obtain ⟨rfl, rfl, hfree⟩ := opOut_mov hm hout
              obtain ⟨en, st, sE, pj, D⟩ := draw_spec l (i + 1) _ _ _ hl' hlt h
              have hsub : ∀ x ∈ s.rd, x ∈ (match o.op with
                  | .call c => ({ s with rd := (i, lentArgs (c.args.toList.map e.ev), (lentArgs (c.args.toList.map e.ev) S').getD .junk) :: s.rd } : Seen)
                  | _ => s).rd := by
                intro x hx
                split
                · exact List.mem_cons_of_mem _ hx
                · exact hx
              have hsub2 : ∀ x ∈ s.an, x ∈ (match o.op with
                  | .call c => ({ s with rd := (i, lentArgs (c.args.toList.map e.ev), (lentArgs (c.args.toList.map e.ev) S').getD .junk) :: s.rd } : Seen)
                  | _ => s).an := by
                intro x hx
                split <;> exact hx
              refine ⟨_, _, sE, pj, D.extend hlt hsub hsub2 fun o' ho' => ?_⟩
              rw [ho] at ho'; cases ho'
              refine .mov v hh hm hout fun a Sa Sb ha hu => ?_
              have hl2 : ∀ S2, (S2 = Sa ∨ S2 = Sb) → ∀ c, o.op = .call c → ∃ u, lentArgs (c.args.toList.map e.ev) S' = some u ∧ lentArgs (c.args.toList.map e.ev) S2 = some u := by
                intro S2 hS c hc
                have hmem : (i, lentArgs (c.args.toList.map e.ev), (lentArgs (c.args.toList.map e.ev) S').getD .junk) ∈ sE.rd := D.rd _ (by rw [hc]; exact List.mem_cons_self ..)
                have hg := check_get D.check hmem ha hu
                have h2 : lentArgs (c.args.toList.map e.ev) S2 = some ((lentArgs (c.args.toList.map e.ev) S').getD .junk) := by
                  rcases hS with rfl | rfl
                  · exact hg.1
                  · exact hg.2
                cases hl : lentArgs (c.args.toList.map e.ev) S' with
                | some u => rw [hl] at h2; exact ⟨u, rfl, h2⟩
                | none =>
                  rw [hl] at h2
                  exfalso
                  unfold lentArgs at h2
                  split at h2
                  · cases h2
                  · simp only [Option.bind_eq_some_iff, Option.map_eq_some_iff] at h2
                    obtain ⟨_, _, _, _, q⟩ := h2
                    cases q
              exact ⟨hfree hp Sa (hl2 Sa (.inl rfl)), hfree hp Sb (hl2 Sb (.inr rfl))⟩
      · simp only [hp, cond_true] at h
        unfold bindP at h
        split at h
        · rename_i v hv
          have hm := movable_of_pure (X := X) hp
          have hout : ∀ S2, (match o.guard with
            | none => pureOp X.P o.op e S2
            | some (j, want) => guardP (yieldedA all e j) want (pureOp X.P o.op e S2)) = some v → opOut X all o e S2 = some (.val v none S2) := fun S2 hv => by
            rw [opOut_pure hp]; simp only [Option.map_eq_some_iff]; exact ⟨v, hv, rfl⟩
          obtain ⟨en, st, sE, pj, D⟩ := draw_spec l (i + 1) _ _ _ hl' hlt h
          have hsub : ∀ x ∈ s.rd, x ∈ (bif reads o.op then ({ s with rd := (i, (fun S => match o.guard with
              | none => pureOp X.P o.op e S
              | some (j, want) => guardP (yieldedA all e j) want (pureOp X.P o.op e S)), v) :: s.rd } : Seen) else s).rd := by
            intro x hx
            cases reads o.op
            · exact hx
            · exact List.mem_cons_of_mem _ hx
          have hsub2 : ∀ x ∈ s.an, x ∈ (bif reads o.op then ({ s with rd := (i, (fun S => match o.guard with
              | none => pureOp X.P o.op e S
              | some (j, want) => guardP (yieldedA all e j) want (pureOp X.P o.op e S)), v) :: s.rd } : Seen) else s).an := by
            intro x hx
            cases reads o.op <;> exact hx
          refine ⟨_, _, sE, pj, D.extend hlt hsub hsub2 fun o' ho' => ?_⟩
          rw [ho] at ho'; cases ho'
          refine .mov v hh hm (hout S hv) fun a Sa Sb ha hu => ?_
          cases hr : reads o.op
          · exact ⟨opOut_still hp hr (hout S hv), opOut_still hp hr (hout S hv)⟩
          · have hmem : (i, (fun S => match o.guard with
              | none => pureOp X.P o.op e S
              | some (j, want) => guardP (yieldedA all e j) want (pureOp X.P o.op e S)), v) ∈ sE.rd := D.rd _ (by rw [hr]; exact List.mem_cons_self ..)
            have hg := check_get D.check hmem ha hu
            exact ⟨hout Sa hg.1, hout Sb hg.2⟩
        · cases h
    · simp only [hh, cond_true] at h
      obtain ⟨en, st, sE, pj, D⟩ := draw_spec l (i + 1) _ _ _ hl' hlt h
      refine ⟨_, _, sE, pj, D.extend hlt (fun _ q => q) (fun x q => q) fun o' ho' => ?_⟩
      rw [ho] at ho'; cases ho'
      exact .hoi hh

/- What is hoisted -/

def hobj (P : Program) (o : Oper) : AObj := match o.op with | .alloc t => .cells (zeroT P t) | _ => .map [] 0
def hval (o : Oper) (n : Nat) : AV := match o.op with | .alloc _ => .ptr n 0 | _ => .map n
def hok (P : Program) (o : Oper) : Prop := ∀ t, o.op = .alloc t → okT P t = true

structure HData (X : Ctx) (all : Array Oper) (i : Nat) (e : Env) (S : St) (e1 : Env) (S1 : St) (ho : Nat → Nat) : Prop where
  d : e1.d = e.d
  t : ∀ s, (∀ (j : Nat) (o : Oper), i ≤ j → all[j]? = some o → hoisted o = true → o.dst ≠ some s) → e1.t s = e.t s
  ge : ∀ (j : Nat) (o : Oper), i ≤ j → all[j]? = some o → hoisted o = true → S.objs.length ≤ ho j
  obj : ∀ (j : Nat) (o : Oper), i ≤ j → all[j]? = some o → hoisted o = true → S1.objs[ho j]? = some (hobj X.P o)
  val : ∀ (j : Nat) (o : Oper) (s : Nat), i ≤ j → all[j]? = some o → hoisted o = true → o.dst = some s → e1.t s = hval o (ho j)
  ok : ∀ (j : Nat) (o : Oper), i ≤ j → all[j]? = some o → hoisted o = true → hok X.P o
  inj : ∀ (j j' : Nat) (o o' : Oper), i ≤ j → all[j]? = some o → hoisted o = true → i ≤ j' → all[j']? = some o' → hoisted o' = true → ho j = ho j' → j = j'
  more : ∃ l, S1 = { S with objs := S.objs ++ l }

theorem hoist_act {o : Oper} {e : Env} {S S' : St} {a : Ans} (hh : hoisted o = true) (h : actOp X o.op o.dst e S = some (a, S')) : a = .ret (hval o S.objs.length) ∧ S' = S.push (hobj X.P o) ∧ hok X.P o := by
  unfold hoisted at hh
  split at hh
  · rename_i t hop hg
    rw [hop] at h
    simp only [actOp] at h
    cases ho : okT X.P t
    · rw [ho] at h; cases h
    · simp only [ho, cond_true, okv, oNew, Option.map_some, Option.some.injEq, Prod.mk.injEq] at h
      obtain ⟨rfl, rfl⟩ := h
      unfold hval hobj hok
      rw [hop]
      exact ⟨rfl, rfl, fun t' q => by cases q; exact ho⟩
  · rename_i t hop hg
    rw [hop] at h
    simp only [actOp, okv, Option.map_some, Option.some.injEq, Prod.mk.injEq] at h
    obtain ⟨rfl, rfl⟩ := h
    unfold hval hobj hok
    rw [hop]
    exact ⟨rfl, rfl, fun t' q => by cases q⟩
  · cases hh

theorem hoist_spec {k : Env → St → R} {r : Ans × St} (hu : ∀ (i j : Nat) (o p : Oper) (d : Nat), all[i]? = some o → all[j]? = some p → o.dst = some d → p.dst = some d → i = j) : ∀ (l : List Oper) (i : Nat) (e : Env) (S : St), all.toList.drop i = l → hoist X all l e S k = some r →
    ∃ e1 S1 ho, k e1 S1 = some r ∧ HData X all i e S e1 S1 ho
  | [], i, e, S, hl, h => by
    have hl := congrArg List.length hl
    simp at hl
    have no : ∀ (j : Nat) (o : Oper), i ≤ j → all[j]? = some o → False := fun j o hj ho => by have := get_lt ho; omega
    refine ⟨e, S, fun _ => 0, h, ⟨rfl, fun _ _ => rfl, fun j o hj ho => (no j o hj ho).elim, fun j o hj ho => (no j o hj ho).elim, fun j o s hj ho => (no j o hj ho).elim, fun j o hj ho => (no j o hj ho).elim, fun j j' o o' hj ho => (no j o hj ho).elim, [], by simp⟩⟩
  | o :: l, i, e, S, hl, h => by
    obtain ⟨ho, hl'⟩ := drop_get hl
    simp only [hoist] at h
    cases hh : hoisted o
    · simp only [hh, cond_false] at h
      obtain ⟨e1, S1, hn, hk, D⟩ := hoist_spec hu l (i + 1) e S hl' h
      have nx : ∀ (j : Nat) (o' : Oper), i ≤ j → all[j]? = some o' → hoisted o' = true → i + 1 ≤ j := fun j o' hj ho' hh' => by
        rcases Nat.lt_or_ge i j with q | q
        · exact q
        · have : j = i := by omega
          subst this
          rw [ho] at ho'; cases ho'; rw [hh] at hh'; cases hh'
      exact ⟨e1, S1, hn, hk, ⟨D.d, fun s q => D.t s fun j o' hj ho' hh' => q j o' (by omega) ho' hh', fun j o' hj ho' hh' => D.ge j o' (nx j o' hj ho' hh') ho' hh', fun j o' hj ho' hh' => D.obj j o' (nx j o' hj ho' hh') ho' hh',
        fun j o' s hj ho' hh' => D.val j o' s (nx j o' hj ho' hh') ho' hh', fun j o' hj ho' hh' => D.ok j o' (nx j o' hj ho' hh') ho' hh',
        fun j j' o1 o2 hj ho1 hh1 hj' ho2 hh2 => D.inj j j' o1 o2 (nx j o1 hj ho1 hh1) ho1 hh1 (nx j' o2 hj' ho2 hh2) ho2 hh2, D.more⟩⟩
    · simp only [hh, cond_true] at h
      cases ha : actOp X o.op o.dst e S with
      | none => rw [ha] at h; cases h
      | some q =>
        obtain ⟨a, S'⟩ := q
        rw [ha] at h
        obtain ⟨rfl, rfl, hk0⟩ := hoist_act hh ha
        simp only [bindC] at h
        obtain ⟨e1, S1, hn, hk, D⟩ := hoist_spec hu l (i + 1) _ _ hl' h
        obtain ⟨more, hm⟩ := D.more
        have hge : ∀ (j : Nat) (o' : Oper), i + 1 ≤ j → all[j]? = some o' → hoisted o' = true → S.objs.length + 1 ≤ hn j := fun j o' hj ho' hh' => by
          have := D.ge j o' hj ho' hh'
          simpa [St.push] using this
        have cs : ∀ j, i ≤ j → j = i ∨ i + 1 ≤ j := fun j hj => by omega
        refine ⟨e1, S1, upd hn i S.objs.length, hk, ⟨?_, ?_, ?_, ?_, ?_, ?_, ?_, ?_⟩⟩
        · rw [D.d]; cases o.dst <;> rfl
        · intro s q
          rw [D.t s fun j o' hj ho' hh' => q j o' (by omega) ho' hh']
          have := q i o (Nat.le_refl _) ho hh
          cases hd : o.dst with
          | none => rfl
          | some d =>
            simp only [Env.put, Env.set]
            have : Nat.beq s d = false := by
              cases hb : Nat.beq s d
              · rfl
              · exfalso; apply this; rw [hd]; simpa using (by simpa using hb : s = d).symm
            simp [this]
        · intro j o' hj ho' hh'
          rcases cs j hj with rfl | q
          · rw [upd_eq]; exact Nat.le_refl _
          · rw [upd_ne _ _ (by omega)]; have := hge j o' q ho' hh'; omega
        · intro j o' hj ho' hh'
          rcases cs j hj with rfl | q
          · rw [ho] at ho'; cases ho'
            rw [upd_eq, hm]
            simp [St.push]
          · rw [upd_ne _ _ (by omega)]; exact D.obj j o' q ho' hh'
        · intro j o' s hj ho' hh' hs
          rcases cs j hj with rfl | q
          · rw [ho] at ho'; cases ho'
            rw [upd_eq, D.t s fun j' o' hj' ho' hh' hd' => by have := hu _ _ _ _ _ ho ho' hs hd'; omega]
            simp [hs, Env.put, Env.set]
          · rw [upd_ne _ _ (by omega)]; exact D.val j o' s q ho' hh' hs
        · intro j o' hj ho' hh'
          rcases cs j hj with rfl | q
          · rw [ho] at ho'; cases ho'; exact hk0
          · exact D.ok j o' q ho' hh'
        · intro j j' o1 o2 hj ho1 hh1 hj' ho2 hh2 he
          rcases cs j hj with rfl | q <;> rcases cs j' hj' with rfl | q'
          · rfl
          · rw [upd_eq, upd_ne _ _ (by omega)] at he; have := hge j' o2 q' ho2 hh2; omega
          · rw [upd_eq, upd_ne _ _ (by omega)] at he; have := hge j o1 q ho1 hh1; omega
          · rw [upd_ne _ _ (by omega), upd_ne _ _ (by omega)] at he
            exact D.inj j j' o1 o2 q ho1 hh1 q' ho2 hh2 he
        · rw [hm]; exact ⟨hobj X.P o :: more, by simp [St.push]⟩

end
end Go.Sac
