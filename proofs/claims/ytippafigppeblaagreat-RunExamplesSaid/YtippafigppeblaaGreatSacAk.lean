/- Code. -/
import Derived.Test.YtippafigppeblaaGreatSacAj
import Derived.RangeFuncIn
namespace Go.Sac
set_option linter.unusedVariables false
set_option linter.unusedSimpArgs false
open Go

section
variable {X : Ctx} {b : Frame} {cs : Callers} {up : Up} {n : Nat} {Q : Machine → Prop} {r : Ans × St}

def CodeOk (X : Ctx) (b : Frame) (cs : Callers) (up : Up) (n : Nat) (Q : Machine → Prop) (r : Ans × St) (c : Code) : Prop :=
  ∀ (k : List Item) (W : Nat → Prop) (K : Kont) (G : Gh) (S : St) (w : World) (e : Env) (a : Act), (∀ d ∈ writes c, W d ∧ d < n) → Pt n up G S w e a → runCode X c e S K = some r → KOk Q r b cs n up k W G S w e K →
    Q (lone (b.atR a (.code c :: k)) (cs S.pan) w)

def FromOk (X : Ctx) (b : Frame) (cs : Callers) (up : Up) (n : Nat) (Q : Machine → Prop) (r : Ans × St) (c : Code) : Prop :=
  ∀ (l : Nat) (k : List Item) (W : Nat → Prop) (K : Kont) (G : Gh) (S : St) (w : World) (e : Env) (a : Act), (∀ d ∈ writes c, W d ∧ d < n) → Pt n up G S w e a → fromLabel X l c e S K = some r → KOk Q r b cs n up k W G S w e K →
    ∃ rest, findLabel c l = some rest ∧ Q (lone (b.atR a (.code rest :: k)) (cs S.pan) w)

theorem From.refl {n : Nat} {up : Up} {W : Nat → Prop} {G : Gh} {S : St} {w : World} {e : Env} {a : Act} (p : Pt n up G S w e a) : From n up W G S w e G S w e a := ⟨Step.refl G S w, p, fun _ _ => rfl⟩

theorem spine_find {l : Nat} : ∀ (c : Code), onSpine l c = (findLabel c l).isSome
  | .seq a b => by
    simp only [onSpine, findLabel, spine_find a, spine_find b]
    cases findLabel a l <;> rfl
  | .label l' => by
    simp only [onSpine, findLabel]
    by_cases h : l' = l
    · subst h; simp
    · have : Nat.beq l' l = false := by
        cases hb : Nat.beq l' l
        · rfl
        · exact (h (by simpa using hb)).elim
      simp [this, h]
  | .skip | .region .. | .cond .. | .block .. | .loop .. | .scope .. | .exit .. | .goto .. | .ret | .refuse .. | .rangeFunc .. => rfl

theorem stepR_inScope {P : Program} {a : Act} {k : List Item} {csl : List Frame} {w : World} {c : Code} : step P (lone (b.atR a (.inScope c :: k)) csl w) = .next (lone (b.atR a k) csl w) :=
  step_lone_go (by simp [stepG, stepG.exec, Frame.atR])

theorem stepR_scope {P : Program} {a : Act} {k : List Item} {csl : List Frame} {w : World} {c : Code} : step P (lone (b.atR a (.code (.scope c) :: k)) csl w) = .next (lone (b.atR a (.code c :: .inScope c :: k)) csl w) :=
  step_lone_go (by simp [stepG, stepG.exec, Frame.atR])

/-- Entering a range over a function, whatever is called. -/
theorem stepR_rangeFunc' {P : Program} {a : Act} {k : List Item} {csl : List Frame} {w w1 : World} {g : Operand} {ps : Array Tmp} {assign body : Code} {l : Nat} {mark : List Deferred} {nx : Next}
    (he : (Instr.enterLoop b.fn a.tmps ps assign body b.roundOf).run P w = .ok (l, mark) w1)
    (hr : (do let d ← Deferred.ofValue (a.eval g) #[.func (.yield l) #[] #[]]; invoke d.target d.args : Sem Next).run P w1 = .ok nx w1) (hQ : Closed P Q)
    (hi : Into P Q (b.atR { a with defers := mark ++ a.defers } (.inRangeFunc l :: k)) csl w1 nx) : Q (lone (b.atR a (.code (.rangeFunc g ps assign body) :: k)) csl w) := by
  have hev := Frame.eval_atR b { a with defers := mark ++ a.defers } (.inRangeFunc l :: k)
  have hev2 : ({ tmps := a.tmps, defers := mark ++ a.defers } : Act).eval = a.eval := rfl
  simp only [Frame.atR] at hev
  have hr' : Sem.run P (do let d ← resolve a.eval { callee := .value g, args := #[.const (.func (.yield l) #[] #[])], argTypes := #[] } 0; invoke d.target d.args) w1 = .ok nx w1 := by
    rw [← hr]; simp [resolve, Act.eval]
  cases nx <;> simp only [Into] at hi <;> try (exact hi.elim)
  · refine hQ _ _ (step_lone_go ?_) hi
    simp only [stepG, stepG.exec, Frame.atR, Sem.runT_eq, he, GStep.bare_after, stepG.apply, hev, hev2]
    simp [hr']
  · refine hQ _ _ (step_lone_go ?_) hi
    simp only [stepG, stepG.exec, Frame.atR, Sem.runT_eq, he, GStep.bare_after, stepG.apply, hev, hev2]
    simp [hr']

theorem run_setObj_loop {P : Program} {w : World} {b : Nat} {L L' : Loop} (hb : w.heap[b]? = some (.loop L)) : (setObj b (.loop L')).run P w = .ok () { w with heap := w.heap.setIfInBounds b (.loop L') } := by
  simp [setObj, Sem.run, hb]

/-- A loop's record that turns. -/
theorem loop_turn {G : Gh} {S : St} {w : World} (inv : Inv G S w) {o b : Nat} {L L' : Loop} {l' : ALoop} (hg : G.obj o = .at b) (hb : w.heap[b]? = some (.loop L)) (h : LoopAt G l' L') :
    Inv G (S.setObj o (.loop l')) { w with heap := w.heap.setIfInBounds b (.loop L') } ∧ Step G S w G (S.setObj o (.loop l')) { w with heap := w.heap.setIfInBounds b (.loop L') } := by
  have hlt : b < w.heap.size := (Array.getElem?_eq_some_iff.1 hb).1
  refine inv.turn hg _ (by simp) ?_ ⟨L', ?_, h⟩ ?_ rfl rfl rfl
  · intro d hd
    rw [Array.getElem?_setIfInBounds, if_neg (Ne.symm hd)]
  · rw [Array.getElem?_setIfInBounds, if_pos rfl]; simp [hlt]
  · intro d e f hd
    rw [Array.getElem?_setIfInBounds, if_pos rfl] at hd; simp [hlt] at hd

theorem loop_here {G : Gh} {S : St} {w : World} (inv : Inv G S w) {o : Nat} {l : ALoop} (ho : S.objs[o]? = some (.loop l)) (hn : G.obj o ≠ .un) : ∃ b L, G.obj o = .at b ∧ w.heap[b]? = some (.loop L) ∧ LoopAt G l L := by
  cases hg : G.obj o with
  | un => exact (hn hg).elim
  | dead => rw [inv.dead o hg] at ho; cases ho
  | «at» b =>
    obtain ⟨x, h1, h2⟩ := inv.obj o b hg
    rw [ho] at h1; cases h1
    obtain ⟨L, h3, h4⟩ := h2
    exact ⟨b, L, rfl, h3, h4⟩

theorem LoopAt.setState {G : Gh} {l : ALoop} {L : Loop} (h : LoopAt G l L) (s : LoopState) (p : Option Code) : LoopAt G { l with state := s, pend := p } { L with state := s, pending := p } :=
  ⟨rfl, rfl, h.fn, h.env, h.params, h.assign, h.body, h.defers, h.fits⟩

theorem run_endLoop {P : Program} {w : World} {b : Nat} {L : Loop} (hb : w.heap[b]? = some (.loop L)) (hs : L.state ≠ .busy) : (Instr.endLoop b).run P w = .ok L.pending { w with heap := w.heap.setIfInBounds b (.loop { L with state := .exhausted }) } := by
  have h2 := run_setObj_loop (P := P) (L' := { L with state := .exhausted }) hb
  simp [Instr.endLoop, Instr.getLoop, run_getObj_loop hb, hs, h2]

theorem jump_ok {k : List Item} {W : Nat → Prop} {K : Kont} {G G' : Gh} {S S' : St} {w w' : World} {e e' : Env} {a' : Act} (ko : KOk Q r b cs n up k W G S w e K) (f : From n up W G S w e G' S' w' e' a') {j : Option Code} (h : jumpOf K e' S' j = some r) :
    Q (lone (b.atR a' ((j.map Item.code).toList ++ k)) (cs S'.pan) w') := by
  unfold jumpOf at h
  split at h
  · exact ko.normal _ _ _ _ _ f h
  · exact ko.ret _ _ _ _ _ f h _
  · exact ko.exit _ _ _ _ _ _ f h _ rfl
  · exact ko.goto _ _ _ _ _ _ f h _ rfl
  · cases h

theorem sameD_eq : ∀ (a b : List ADef), sameD a b = true → a = b
  | [], b, h => by cases b <;> first | rfl | cases h
  | .mark o :: a, b, h => by
    cases b with
    | nil => cases h
    | cons x b =>
      cases x with
      | mark o' =>
        simp only [sameD, Bool.and_eq_true] at h
        have : o = o' := by simpa using h.1
        rw [this, sameD_eq a b h.2]
      | call f' x' => cases h
  | .call f x :: a, b, h => by
    cases b with
    | nil => cases h
    | cons y b =>
      cases y with
      | mark o' => cases h
      | call f' x' =>
        simp only [sameD, Bool.and_eq_true] at h
        rw [same_eq _ _ h.1.1, sameL_eq _ _ h.1.2, sameD_eq a b h.2]

theorem code_ok (F : FOk X b cs up) (hmx : X.P.follows .mixedOrders = true) (hκ : CallOk X.P X.κ.call) (hy : YldOk X.P X.κ.yld) (hQ : Closed X.P Q) : ∀ c : Code, CodeOk X b cs up n Q r c ∧ FromOk X b cs up n Q r c := by
  intro c
  induction c with
  | skip =>
    refine ⟨fun k W K G S w e a hw p h ko => ?_, fun l k W K G S w e a hw p h ko => by cases h⟩
    simp only [runCode] at h
    exact hQ _ _ stepR_skip (ko.normal _ _ _ _ _ (From.refl p) h)
  | label l' =>
    refine ⟨fun k W K G S w e a hw p h ko => ?_, fun l k W K G S w e a hw p h ko => ?_⟩
    · simp only [runCode] at h
      exact hQ _ _ stepR_label (ko.normal _ _ _ _ _ (From.refl p) h)
    · simp only [fromLabel] at h
      cases hb : Nat.beq l' l
      · simp [hb] at h
      · simp only [hb, cond_true] at h
        have : l' = l := by simpa using hb
        subst this
        exact ⟨.skip, by simp [findLabel], hQ _ _ stepR_skip (ko.normal _ _ _ _ _ (From.refl p) h)⟩
  | ret =>
    refine ⟨fun k W K G S w e a hw p h ko => ?_, fun l k W K G S w e a hw p h ko => by cases h⟩
    simp only [runCode] at h
    exact ko.ret _ _ _ _ _ (From.refl p) h _
  | exit i =>
    refine ⟨fun k W K G S w e a hw p h ko => ?_, fun l k W K G S w e a hw p h ko => by cases h⟩
    simp only [runCode] at h
    exact ko.exit _ _ _ _ _ _ (From.refl p) h _ rfl
  | goto i =>
    refine ⟨fun k W K G S w e a hw p h ko => ?_, fun l k W K G S w e a hw p h ko => by cases h⟩
    simp only [runCode] at h
    exact ko.goto _ _ _ _ _ _ (From.refl p) h _ rfl
  | refuse s => exact ⟨fun k W K G S w e a hw p h ko => (by cases h), fun l k W K G S w e a hw p h ko => (by cases h)⟩
  | region id ops draw =>
    refine ⟨fun k W K G S w e a hw p h ko => ?_, fun l k W K G S w e a hw p h ko => by cases h⟩
    have hW : ∀ o ∈ ops.toList, ∀ d, o.dst = some d → W d ∧ d < n := fun o ho d hd => hw d (List.mem_filterMap.2 ⟨o, ho, hd⟩)
    simp only [runCode] at h
    cases draw
    · simp only [cond_false] at h
      refine hQ _ _ stepR_region ?_
      have := runOps_ok F hκ hy hQ W hW ops.toList 0 (by simp) p h ko
      rw [List.range_eq_range']
      simpa using this
    · simp only [cond_true] at h
      exact draw_ok F hmx hκ hy hQ hW p h ko
  | cond c x y ihx ihy =>
    refine ⟨fun k W K G S w e a hw p h ko => ?_, fun l k W K G S w e a hw p h ko => by cases h⟩
    simp only [runCode] at h
    have hr := p.ev c
    split at h
    · rename_i hc
      rw [hc] at hr
      refine hQ _ _ (stepR_cond (t := true) hr) ?_
      exact ihx.1 k W K G S w e a (fun d hd => hw d (List.mem_append_left _ hd)) p h ko
    · rename_i hc
      rw [hc] at hr
      refine hQ _ _ (stepR_cond (t := false) hr) ?_
      exact ihy.1 k W K G S w e a (fun d hd => hw d (List.mem_append_right _ hd)) p h ko
    · cases h
  | seq x y ihx ihy =>
    refine ⟨fun k W K G S w e a hw p h ko => ?_, fun l k W K G S w e a hw p h ko => ?_⟩
    · simp only [runCode] at h
      refine hQ _ _ stepR_seq ?_
      have hx : ∀ d ∈ writes x, d ∈ writes x ∧ d < n := fun d hd => ⟨hd, (hw d (List.mem_append_left _ hd)).2⟩
      have hy' : ∀ d ∈ writes y, W d ∧ d < n := fun d hd => hw d (List.mem_append_right _ hd)
      have wk : ∀ i, i ∈ writes x → W i := fun i hi => (hw i (List.mem_append_left _ hi)).1
      generalize Nat.ble (ends x) 1 = once at h
      cases once
      · simp only [cond_false] at h
        generalize noDef x = nd at h
        cases nd
        rotate_left
        · simp only [cond_true] at h
          refine ihx.1 (.code y :: k) (· ∈ writes x) _ G S w e a hx p h ⟨?_, ?_, ?_, ?_, ?_⟩
          · intro G' S' w' e' a' f h'
            simp only at h'
            cases hsd : sameD e'.d e.d
            · simp only [hsd, cond_false] at h'
              cases h'
            · simp only [hsd, cond_true, Join] at h'
              have hd := sameD_eq _ _ hsd
              have f2 := f.join (X.ann ((firstRegion x).getD 0))
              rw [hd] at f2
              exact ihy.1 k W K G' S' w' _ a' hy' f2.pt h' (ko.shift (f2.weak wk) fun _ q => q)
          · intro G' S' w' e' a' f h' k'; exact ko.ret _ _ _ _ _ (f.weak wk) h' k'
          · intro j G' S' w' e' a' f h' k' hk; exact ko.exit _ _ _ _ _ _ (f.weak wk) h' k' hk
          · intro l G' S' w' e' a' f h' k' hk; exact ko.goto _ _ _ _ _ _ (f.weak wk) h' k' hk
          · intro v u G' S' w' e' a' f h' hr k'; exact ko.panic _ _ _ _ _ _ _ (f.weak wk) h' hr k'
        simp only [cond_false] at h
        refine ihx.1 (.code y :: k) (· ∈ writes x) _ G S w e a hx p h ⟨?_, ?_, ?_, ?_, ?_⟩
        · intro G' S' w' e' a' f h'
          simp only [Join] at h'
          have f2 := f.join (X.ann ((firstRegion x).getD 0))
          exact ihy.1 k W K G' S' w' _ a' hy' f2.pt h' (ko.shift (f2.weak wk) fun _ q => q)
        · intro G' S' w' e' a' f h' k'; exact ko.ret _ _ _ _ _ (f.weak wk) h' k'
        · intro j G' S' w' e' a' f h' k' hk; exact ko.exit _ _ _ _ _ _ (f.weak wk) h' k' hk
        · intro l G' S' w' e' a' f h' k' hk; exact ko.goto _ _ _ _ _ _ (f.weak wk) h' k' hk
        · intro v u G' S' w' e' a' f h' hr k'; exact ko.panic _ _ _ _ _ _ _ (f.weak wk) h' hr k'
      · simp only [cond_true] at h
        refine ihx.1 (.code y :: k) W _ G S w e a (fun d hd => hw d (List.mem_append_left _ hd)) p h ⟨?_, ?_, ?_, ?_, ?_⟩
        · intro G' S' w' e' a' f h'
          exact ihy.1 k W K G' S' w' _ a' hy' f.pt h' (ko.shift f fun _ q => q)
        · intro G' S' w' e' a' f h' k'; exact ko.ret _ _ _ _ _ f h' k'
        · intro j G' S' w' e' a' f h' k' hk; exact ko.exit _ _ _ _ _ _ f h' k' hk
        · intro l G' S' w' e' a' f h' k' hk; exact ko.goto _ _ _ _ _ _ f h' k' hk
        · intro v u G' S' w' e' a' f h' hr k'; exact ko.panic _ _ _ _ _ _ _ f h' hr k'
    · simp only [fromLabel] at h
      have hy' : ∀ d ∈ writes y, W d ∧ d < n := fun d hd => hw d (List.mem_append_right _ hd)
      cases hs : onSpine l x
      · simp only [hs, cond_false] at h
        obtain ⟨rest, h1, h2⟩ := ihy.2 l k W K G S w e a hy' p h ko
        refine ⟨rest, ?_, h2⟩
        rw [spine_find] at hs
        simp only [findLabel]
        cases hf : findLabel x l with
        | none => exact h1
        | some q => rw [hf] at hs; cases hs
      · simp only [hs, cond_true] at h
        obtain ⟨rest, h1, h2⟩ := ihx.2 l (.code y :: k) W _ G S w e a (fun d hd => hw d (List.mem_append_left _ hd)) p h ⟨fun G' S' w' e' a' f h' => ihy.1 k W K G' S' w' _ a' hy' f.pt h' (ko.shift f fun _ q => q),
          fun G' S' w' e' a' f h' k' => ko.ret _ _ _ _ _ f h' k', fun j G' S' w' e' a' f h' k' hk => ko.exit _ _ _ _ _ _ f h' k' hk, fun l G' S' w' e' a' f h' k' hk => ko.goto _ _ _ _ _ _ f h' k' hk, fun v u G' S' w' e' a' f h' hr k' => ko.panic _ _ _ _ _ _ _ f h' hr k'⟩
        exact ⟨.seq rest y, by simp [findLabel, h1], hQ _ _ stepR_seq h2⟩
  | block id x ih =>
    refine ⟨fun k W K G S w e a hw p h ko => ?_, fun l k W K G S w e a hw p h ko => by cases h⟩
    simp only [runCode] at h
    refine hQ _ _ stepR_block (ih.1 (.inBlock id :: k) W _ G S w e a hw p h ⟨?_, ?_, ?_, ?_, ?_⟩)
    · intro G' S' w' e' a' f h'
      exact hQ _ _ stepR_inBlock (ko.normal _ _ _ _ _ f h')
    · intro G' S' w' e' a' f h' k'; exact ko.ret _ _ _ _ _ f h' k'
    · intro j G' S' w' e' a' f h' k' hk
      simp only at h'
      cases hb : Nat.beq j id
      · simp only [hb, cond_false] at h'
        refine ko.exit _ _ _ _ _ _ f h' k' (hk.trans ?_)
        have : ¬ id = j := by
          rintro rfl; simp at hb
        simp [Go.exitTo, this]
      · simp only [hb, cond_true] at h'
        have : j = id := by simpa using hb
        subst this
        exact hQ _ _ (stepR_exit (k' := k) (hk.trans (by simp [Go.exitTo]))) (ko.normal _ _ _ _ _ f h')
    · intro l G' S' w' e' a' f h' k' hk; exact ko.goto _ _ _ _ _ _ f h' k' hk
    · intro v u G' S' w' e' a' f h' hr k'; exact ko.panic _ _ _ _ _ _ _ f h' hr k'
  | loop x ih =>
    refine ⟨fun k W K G S w e a hw p h ko => ?_, fun l k W K G S w e a hw p h ko => by cases h⟩
    simp only [runCode] at h
    refine hQ _ _ stepR_loop ?_
    have hx : ∀ d ∈ writes x, d ∈ writes x ∧ d < n := fun d hd => ⟨hd, (hw d hd).2⟩
    have wk : ∀ i, i ∈ writes x → W i := fun i hi => (hw i hi).1
    generalize hcar : X.ann ((firstRegion x).getD 0) = car at h
    generalize noDef x = nd at h
    cases nd
    · simp only [cond_false] at h
      have claim : ∀ (N : Nat) (f : Nat → AV) (d : List ADef) (G' : Gh) (S' : St) (w' : World) (a' : Act), From n up (· ∈ writes x) G S w e G' S' w' (joinEnv e car (writes x) f d) a' →
          loopN (fun vals d S' k => runCode X x { mkEnv e car (writes x) vals with d := d } (gcHead X.gc S.objs.length d vals S') { K with normal := fun e' S' => k (car.map e'.t) e'.d S' }) N (car.map f) d S' = some r →
          Q (lone (b.atR a' (.code x :: .inLoop x :: k)) (cs S'.pan) w') := by
        intro N
        induction N with
        | zero => intro f d G' S' w' a' _ h; cases h
        | succ N ihN =>
          intro f d G' S' w' a' fr h
          simp only [loopN] at h
          obtain ⟨G2, f2⟩ := fr.gc X.gc p
          rw [← gcHead_pan X.gc S.objs.length d (car.map f) S']
          refine ih.1 (.inLoop x :: k) (· ∈ writes x) _ G2 _ w' (joinEnv e car (writes x) f d) a' hx f2.pt h ⟨?_, ?_, ?_, ?_, ?_⟩
          · intro G3 S3 w3 e3 a3 f3 h3
            have f4 := (f2.trans f3).join car
            exact hQ _ _ stepR_inLoop (ihN e3.t e3.d G3 S3 w3 a3 f4 h3)
          · intro G' S' w' e' a' f h' k'; exact ko.ret _ _ _ _ _ ((f2.trans f).weak wk) h' k'
          · intro j G' S' w' e' a' f h' k' hk; exact ko.exit _ _ _ _ _ _ ((f2.trans f).weak wk) h' k' hk
          · intro l G' S' w' e' a' f h' k' hk; exact ko.goto _ _ _ _ _ _ ((f2.trans f).weak wk) h' k' hk
          · intro v u G' S' w' e' a' f h' hr k'; exact ko.panic _ _ _ _ _ _ _ ((f2.trans f).weak wk) h' hr k'
      exact claim X.N e.t e.d G S w a ((From.refl p).join car) h
    · simp only [cond_true] at h
      have claim : ∀ (N : Nat) (f : Nat → AV) (G' : Gh) (S' : St) (w' : World) (a' : Act), From n up (· ∈ writes x) G S w e G' S' w' (joinEnv e car (writes x) f e.d) a' →
          loop1 (fun vals S' k => runCode X x (mkEnv e car (writes x) vals) (gcHead X.gc S.objs.length e.d vals S') { K with normal := fun e' S' => bif sameD e'.d e.d then k (car.map e'.t) S' else none }) N (car.map f) S' = some r →
          Q (lone (b.atR a' (.code x :: .inLoop x :: k)) (cs S'.pan) w') := by
        intro N
        induction N with
        | zero => intro f G' S' w' a' _ h; cases h
        | succ N ihN =>
          intro f G' S' w' a' fr h
          simp only [loop1] at h
          obtain ⟨G2, f2⟩ := fr.gc X.gc p
          rw [← gcHead_pan X.gc S.objs.length e.d (car.map f) S']
          refine ih.1 (.inLoop x :: k) (· ∈ writes x) _ G2 _ w' (joinEnv e car (writes x) f e.d) a' hx f2.pt h ⟨?_, ?_, ?_, ?_, ?_⟩
          · intro G3 S3 w3 e3 a3 f3 h3
            simp only at h3
            cases hsd : sameD e3.d e.d
            · simp only [hsd, cond_false] at h3
              cases h3
            · simp only [hsd, cond_true] at h3
              have hd := sameD_eq _ _ hsd
              have f4 := (f2.trans f3).join car
              rw [hd] at f4
              exact hQ _ _ stepR_inLoop (ihN e3.t G3 S3 w3 a3 f4 h3)
          · intro G' S' w' e' a' f h' k'; exact ko.ret _ _ _ _ _ ((f2.trans f).weak wk) h' k'
          · intro j G' S' w' e' a' f h' k' hk; exact ko.exit _ _ _ _ _ _ ((f2.trans f).weak wk) h' k' hk
          · intro l G' S' w' e' a' f h' k' hk; exact ko.goto _ _ _ _ _ _ ((f2.trans f).weak wk) h' k' hk
          · intro v u G' S' w' e' a' f h' hr k'; exact ko.panic _ _ _ _ _ _ _ ((f2.trans f).weak wk) h' hr k'
      exact claim X.N e.t G S w a ((From.refl p).join car) h
  | scope x ih =>
    refine ⟨fun k W K G S w e a hw p h ko => ?_, fun l k W K G S w e a hw p h ko => by cases h⟩
    simp only [runCode] at h
    refine hQ _ _ stepR_scope (ih.1 (.inScope x :: k) W _ G S w e a hw p h ⟨?_, ?_, ?_, ?_, ?_⟩)
    · intro G' S' w' e' a' f h'
      exact hQ _ _ stepR_inScope (ko.normal _ _ _ _ _ f h')
    · intro G' S' w' e' a' f h' k'; exact ko.ret _ _ _ _ _ f h' k'
    · intro j G' S' w' e' a' f h' k' hk; exact ko.exit _ _ _ _ _ _ f h' k' hk
    · intro l G' S' w' e' a' f h' k' hk
      obtain ⟨rest, h1, h2⟩ := ih.2 l (.inScope x :: k) W _ G' S' w' e' a' hw f.pt h' ⟨fun G2 S2 w2 e2 a2 f2 h2 => hQ _ _ stepR_inScope (ko.normal _ _ _ _ _ (f.trans f2) h2),
        fun G2 S2 w2 e2 a2 f2 h2 k2 => ko.ret _ _ _ _ _ (f.trans f2) h2 k2, fun j G2 S2 w2 e2 a2 f2 h2 k2 hk2 => ko.exit _ _ _ _ _ _ (f.trans f2) h2 k2 hk2, fun l G2 S2 w2 e2 a2 f2 h2 k2 hk2 => (by cases h2), fun v u G2 S2 w2 e2 a2 f2 h2 hr2 k2 => ko.panic _ _ _ _ _ _ _ (f.trans f2) h2 hr2 k2⟩
      refine hQ _ _ (stepR_goto (k' := .code rest :: .inScope x :: k) (hk.trans ?_)) h2
      simp [gotoIn, h1]
    · intro v u G' S' w' e' a' f h' hr k'; exact ko.panic _ _ _ _ _ _ _ f h' hr k'
  | rangeFunc g ps x y ihx ihy =>
    refine ⟨fun k W K G S w e a hw p h ko => ?_, fun l k W K G S w e a hw p h ko => by cases h⟩
    simp only [runCode] at h
    cases hrd : X.round
    · simp only [hrd, cond_false] at h
      have hro : b.roundOf = none := by
        have := F.round; rw [hrd] at this
        cases hb : b.roundOf with
        | none => rfl
        | some l => rw [hb] at this; cases this
      generalize hl0 : ({ state := .ready, pend := none, fn := X.fn, env := e.t, params := ps.toList, assign := x, body := y, defers := S.objs.length } : ALoop) = al at h
      -- the records
      have hD := alloc_heap w (.deferred (some []))
      have i1 := p.inv.push (w' := w.alloc (.deferred (some []))) (.dfr false) 0 hD.1 hD.2.1 hD.2.2 (by intro c e f hc; rw [hD.2.2] at hc; cases hc) rfl rfl rfl
      generalize hw1 : w.alloc (.deferred (some [])) = w1 at i1
      generalize hG1 : G.newObj S.objs.length w.heap.size 0 = G1 at i1
      have hG1o : G1.obj S.objs.length = .at w.heap.size := by rw [← hG1]; simp [Gh.newObj]
      have hL := alloc_heap w1 (.loop { state := .ready, pending := none, fn := b.fn, tmps := a.tmps, params := ps, assign := x, body := y, defers := w.heap.size })
      have hlen1 : (S.push (.dfr false)).objs.length = S.objs.length + 1 := by simp [St.push]
      have hun2 : G1.obj (S.push (.dfr false)).objs.length = .un := i1.1.beyond _ (Nat.le_refl _)
      have m2 : Mono G1 (G1.newObj (S.push (.dfr false)).objs.length w1.heap.size 0) := Mono.newObj hun2
      have la : LoopAt (G1.newObj (S.push (.dfr false)).objs.length w1.heap.size 0) al { state := .ready, pending := none, fn := b.fn, tmps := a.tmps, params := ps, assign := x, body := y, defers := w.heap.size } := by
        rw [← hl0]
        refine ⟨rfl, rfl, F.fn, ?_, rfl, rfl, rfl, m2.obj _ _ hG1o, fun d hd => ?_⟩
        · exact (p.tmps.mono i1.2.toMono).mono m2
        · show d < a.tmps.size
          rw [p.size]; exact (hw d hd).2
      have i2 := i1.1.push (w' := w1.alloc (.loop { state := .ready, pending := none, fn := b.fn, tmps := a.tmps, params := ps, assign := x, body := y, defers := w.heap.size })) (.loop al) 0 hL.1 hL.2.1 ⟨_, hL.2.2, la⟩ (by intro c e f hc; rw [hL.2.2] at hc; cases hc) rfl rfl rfl
      generalize hw2 : w1.alloc (.loop { state := .ready, pending := none, fn := b.fn, tmps := a.tmps, params := ps, assign := x, body := y, defers := w.heap.size }) = w2 at i2
      rw [hlen1] at i2
      generalize hG2 : G1.newObj (S.objs.length + 1) w1.heap.size 0 = G2 at i2
      have hG2o : G2.obj (S.objs.length + 1) = .at w1.heap.size := by rw [← hG2]; simp [Gh.newObj]
      have st2 : Step G S w G2 ((S.push (.dfr false)).push (.loop al)) w2 := i1.2.trans i2.2
      have hpan : ((S.push (.dfr false)).push (.loop al)).pan = S.pan := rfl
      have hsz1 : w1.heap.size = w.heap.size + 1 := by rw [← hw1]; exact hD.1
      have henter : (Instr.enterLoop b.fn a.tmps ps x y b.roundOf).run X.P w = .ok (w1.heap.size, [{ target := .collected w.heap.size, args := #[] }]) w2 := by
        rw [hro, ← hw2, ← hw1]
        simp [Instr.enterLoop]
      -- the call
      unfold bindC at h
      have hcall : ∀ {ans : Ans} {S2 : St}, callV X (e.ev g) [.yld (S.objs.length + 1)] ((S.push (.dfr false)).push (.loop al)) = some (ans, S2) →
          Goes Q (b.atR { a with defers := [{ target := .collected w.heap.size, args := #[] }] ++ a.defers } (.inRangeFunc w1.heap.size :: k)) (cs S.pan) G2 ((S.push (.dfr false)).push (.loop al)) w2 S2 ans →
          S2.pan = S.pan ∧ Q (lone (b.atR a (.code (.rangeFunc g ps x y) :: k)) (cs S.pan) w) := by
        intro ans S2 hc hg
        obtain ⟨hp2, nx, hrun, hinto⟩ := callV_ok hκ hy i2.1 (vf := a.eval g) (vargs := #[.func (.yield w1.heap.size) #[] #[]]) hc (Rel.mono st2.toMono _ _ (p.ev g)) ⟨_, _, rfl, by simp only [Rel, hG2o], rfl⟩
        exact ⟨hp2.trans hpan, stepR_rangeFunc' henter hrun hQ (hinto Q hQ _ _ hg)⟩
      have pdefs : ∀ {G3 : Gh}, Mono G2 G3 → RelD G3 (.mark S.objs.length :: e.d) ([{ target := .collected w.heap.size, args := #[] }] ++ a.defers) := fun {G3} m => by
        refine ⟨w.heap.size, a.defers, rfl, ?_, (p.defs.mono st2.toMono).mono m⟩
        have h2 : G2.obj S.objs.length = .at w.heap.size ∨ G2.obj S.objs.length = .dead := i2.2.toMono.obj _ _ hG1o
        rcases h2 with h2 | h2
        · exact m.obj _ _ h2
        · exact .inr (m.dead _ h2)
      have frm : ∀ {G3 : Gh} {S3 : St} {w3 : World}, Step G2 ((S.push (.dfr false)).push (.loop al)) w2 G3 S3 w3 → Inv G3 S3 w3 → S3.pan = S.pan →
          From n up W G S w e G3 S3 w3 { e with d := .mark S.objs.length :: e.d } { a with defers := [{ target := .collected w.heap.size, args := #[] }] ++ a.defers } := fun {G3 S3 w3} st inv hp =>
        ⟨st2.trans st, ⟨inv, (p.tmps.mono st2.toMono).mono st.toMono, p.size, pdefs st.toMono, fun v r q => Rel.mono (st2.toMono.trans st.toMono) _ _ (p.pan v r (by rw [← hp]; exact q)), by rw [hp]; exact p.shape⟩, fun _ _ => rfl⟩
      split at h
      · rename_i v S2 hc
        have hp2 : S2.pan = S.pan := (callV_ok hκ hy i2.1 (vf := a.eval g) (vargs := #[.func (.yield w1.heap.size) #[] #[]]) hc (Rel.mono st2.toMono _ _ (p.ev g)) ⟨_, _, rfl, by simp only [Rel, hG2o], rfl⟩).1.trans hpan
        refine (hcall hc fun G3 w3 u st inv ru => ?_).2
        dsimp only at h
        split at h
        · rename_i l2 hl2
          have hne : G3.obj (S.objs.length + 1) ≠ .un := by
            rcases st.toMono.obj _ _ hG2o with q | q <;> rw [q] <;> exact fun h => by cases h
          obtain ⟨bb, L, hg3, hL3, la3⟩ := loop_here inv hl2 hne
          have hbb : bb = w1.heap.size := by
            rcases st.toMono.obj _ _ hG2o with q | q
            · rw [q] at hg3; cases hg3; rfl
            · rw [q] at hg3; cases hg3
          subst hbb
          rw [finish_atR_inRangeFunc]
          split at h
          · cases h
          · rename_i hnb
            have hnb' : L.state ≠ .busy := fun q => hnb (la3.state.symm.trans q)
            refine hQ _ _ (stepR_endRangeFunc (run_endLoop hL3 hnb')) ?_
            obtain ⟨i4, s4⟩ := loop_turn inv hg3 hL3 (l' := { l2 with state := .exhausted }) (L' := { L with state := .exhausted }) (by
              have := la3.setState .exhausted L.pending
              exact ⟨rfl, la3.pend, la3.fn, la3.env, la3.params, la3.assign, la3.body, la3.defers, la3.fits⟩)
            have f4 := frm (st.trans s4) i4 hp2
            have := jump_ok ko f4 h
            rw [show (S2.setObj (S.objs.length + 1) (.loop { l2 with state := .exhausted })).pan = S.pan from hp2, ← la3.pend] at this
            exact this
        · cases h
      · rename_i v S2 hc
        have hp2 : S2.pan = S.pan := (callV_ok hκ hy i2.1 (vf := a.eval g) (vargs := #[.func (.yield w1.heap.size) #[] #[]]) hc (Rel.mono st2.toMono _ _ (p.ev g)) ⟨_, _, rfl, by simp only [Rel, hG2o], rfl⟩).1.trans hpan
        refine (hcall hc fun G3 w3 u st inv ru => ?_).2
        rw [Frame.raise_atR]
        have := ko.panic v u G3 S2 w3 _ _ (frm st inv hp2) h ru (.inRangeFunc w1.heap.size :: k)
        rw [hp2] at this
        exact this
      · cases h
    · simp [hrd] at h

end
end Go.Sac
