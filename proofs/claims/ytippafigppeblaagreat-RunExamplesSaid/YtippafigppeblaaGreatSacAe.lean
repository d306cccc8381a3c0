/- What one operation comes to, apart from what follows; which slots and states it reads. -/
import Derived.Test.YtippafigppeblaaGreatSacAd
import Derived.Orders
namespace Go.Sac
set_option linter.unusedVariables false
set_option linter.unusedSimpArgs false
open Go

inductive OO where
  | pan (v : AV) (S : St)
  | val (v : AV) (d : Option ADef) (S : St)

def ooA : Ans × St → OO
  | (.ret v, S') => .val v none S'
  | (.panic v, S') => .pan v S'

def opOut (X : Ctx) (all : Array Oper) (o : Oper) (e : Env) (S : St) : Option OO :=
  match o.op with
  | .defer c => match o.guard, c.callee, X.round with
    | none, .value f, false => match e.ev f with
      | .func g a b => some (.val undefA (some (.call (.func g a b) (c.args.toList.map e.ev))) S)
      | _ => none
    | _, _, _ => none
  | op => bif isPure op then
      (match wantedA all o e with | some true => pureOp X.P op e S | some false => some undefA | none => none).map fun v => .val v none S
    else (match wantedA all o e with | some true => actOp X op o.dst e S | some false => some (.ret undefA, S) | none => none).map ooA

def Env.after (e : Env) (v : AV) (d : Option ADef) (dst : Option Nat) : Env := { e with d := d.toList ++ e.d }.put dst v

def ooK (o : Oper) (e : Env) (kp : AV → St → R) (k : Env → St → R) : Option OO → R
  | some (.pan v S') => kp v S'
  | some (.val v d S') => k (e.after v d o.dst) S'
  | none => none

theorem doOp_eq {X : Ctx} {all : Array Oper} {o : Oper} {e : Env} {S : St} {kp : AV → St → R} {k : Env → St → R} : doOp X all o e S kp k = ooK o e kp k (opOut X all o e S) := by
  by_cases hdf : ∃ c, o.op = .defer c
  · obtain ⟨c, hc⟩ := hdf
    unfold doOp opOut
    rw [hc]
    simp only
    cases hg : o.guard <;> cases hcal : c.callee <;> cases hr : X.round <;> simp only [ooK]
    rename_i f
    cases e.ev f <;> rfl
  · have hdf' : ∀ c, o.op ≠ .defer c := fun c q => hdf ⟨c, q⟩
    have h1 : doOp X all o e S kp k = bif isPure o.op then
          bindP (match o.guard with
            | none => pureOp X.P o.op e S
            | some (j, want) => guardP (yieldedA all e j) want (pureOp X.P o.op e S)) fun v => k (e.put o.dst v) S
        else bindC (match o.guard with
            | none => actOp X o.op o.dst e S
            | some (j, want) => guardC (yieldedA all e j) want S (actOp X o.op o.dst e S)) kp fun v S' => k (e.put o.dst v) S' := by
      unfold doOp
      split
      · rename_i c hc; exact (hdf' c hc).elim
      · rfl
    have h2 : opOut X all o e S = bif isPure o.op then
          (match wantedA all o e with | some true => pureOp X.P o.op e S | some false => some undefA | none => none).map fun v => .val v none S
        else (match wantedA all o e with | some true => actOp X o.op o.dst e S | some false => some (.ret undefA, S) | none => none).map ooA := by
      unfold opOut
      split
      · rename_i c hc; exact (hdf' c hc).elim
      · rfl
    rw [h1, h2]
    cases hpu : isPure o.op
    · simp only [cond_false]
      refine (congrArg (fun z => bindC z kp fun v S' => k (e.put o.dst v) S') (guardC_eq (all := all) (o := o) (e := e) (S := S) (x := actOp X o.op o.dst e S))).trans ?_
      cases hw : wantedA all o e with
      | none => rfl
      | some t =>
        cases t
        · rfl
        · simp only
          cases ha : actOp X o.op o.dst e S with
          | none => rfl
          | some q =>
            obtain ⟨a, S'⟩ := q
            cases a <;> rfl
    · simp only [cond_true]
      refine (congrArg (fun z => bindP z fun v => k (e.put o.dst v) S) (guardP_eq (all := all) (o := o) (e := e) (x := pureOp X.P o.op e S))).trans ?_
      cases hw : wantedA all o e with
      | none => rfl
      | some t =>
        cases t
        · rfl
        · simp only
          cases ha : pureOp X.P o.op e S <;> rfl

/- Slots -/

theorem ev_congr {e e' : Env} {x : Operand} (h : ∀ t, x = .tmp t → e.t t = e'.t t) : e.ev x = e'.ev x := by
  cases x <;> first | rfl | exact h _ rfl

theorem map_ev {e e' : Env} {l : List Operand} (h : ∀ x ∈ l, e.ev x = e'.ev x) : l.map e.ev = l.map e'.ev := List.map_congr_left h

theorem parts_ev {e e' : Env} {l : List (Nat × Operand)} (h : ∀ x ∈ l.map (·.2), e.ev x = e'.ev x) : (l.map fun p => (p.1, e.ev p.2)) = l.map fun p => (p.1, e'.ev p.2) :=
  List.map_congr_left fun p hp => by rw [h p.2 (List.mem_map.2 ⟨p, hp, rfl⟩)]

theorem opt_ev {e e' : Env} {l : Option Operand} (h : ∀ x ∈ l.toArray, e.ev x = e'.ev x) : l.map e.ev = l.map e'.ev := by
  cases l with
  | none => rfl
  | some x => simp only [Option.map_some]; rw [h x (by simp)]

theorem pureOp_congr {P : Program} {op : Op} {e e' : Env} {S : St} (h : ∀ x ∈ op.operands, e.ev x = e'.ev x) : pureOp P op e S = pureOp P op e' S := by
  cases op <;> simp only [Op.operands] at h <;> simp only [pureOp]
  case move x => rw [h x (by simp)]
  case assign x => rw [h x (by simp)]
  case pick c a b => rw [h c (by simp), h a (by simp), h b (by simp)]
  case build t parts => rw [parts_ev fun x hx => h x (by simpa using hx)]
  case load t a => rw [h a (by simp)]
  case nilCheck x => rw [h x (by simp)]
  case binOp op t x y r => rw [h x (by simp), h y (by simp)]
  case unOp op t x => rw [h x (by simp)]
  case convert s d x => rw [h x (by simp)]
  case makeInterface t x => rw [h x (by simp)]
  case makeFunc fn first captured =>
    cases fn
    case func f => simp only; rw [map_ev (l := first.toList) fun x hx => h x (by simp at hx; simp [hx]), map_ev (l := captured.toList) fun x hx => h x (by simp at hx; simp [hx])]
    all_goals rfl
  case slice t x lo hi mx => rw [h x (by simp), opt_ev fun x hx => h x (by simp at hx; simp [hx]), opt_ev (l := hi) fun x hx => h x (by simp at hx; simp [hx]), opt_ev (l := mx) fun x hx => h x (by simp at hx; simp [hx])]
  case fieldAddr t x f => rw [h x (by simp)]
  case field t x f => rw [h x (by simp)]
  case indexAddr t x i => rw [h x (by simp), h i (by simp)]
  case index t x i => rw [h x (by simp), h i (by simp)]
  case lookup t m k ok => rw [h m (by simp), h k (by simp)]
  case typeAssert x xt t ok => rw [h x (by simp)]
  case extract x i => rw [h x (by simp)]
  case call c =>
    obtain ⟨callee, args, tys⟩ := c
    have ha : ∀ x ∈ args.toList, e.ev x = e'.ev x := fun x hx => h x (by simp at hx; simp [Call.operands, hx])
    cases callee
    case value => rfl
    case invoke => rfl
    rename_i bb
    cases bb <;> try rfl
    case len =>
      simp only
      cases hl : args.toList with
      | nil => rfl
      | cons x xs =>
        cases xs with
        | nil =>
          cases tys.toList with
          | nil => rfl
          | cons t ts =>
            cases ts with
            | nil => simp only; rw [ha x (by simp [hl])]
            | cons => rfl
        | cons y ys => rfl
    case max => exact congrArg (maxmin true) (map_ev ha)
    case min => exact congrArg (maxmin false) (map_ev ha)

theorem actOp_congr {X : Ctx} {op : Op} {dst : Option Nat} {e e' : Env} {S : St} (h : ∀ x ∈ op.operands, e.ev x = e'.ev x) : actOp X op dst e S = actOp X op dst e' S := by
  cases op <;> simp only [Op.operands] at h <;> simp only [actOp]
  case box t x => rw [h x (by simp)]
  case buildSlice t len parts => rw [parts_ev fun x hx => h x (by simpa using hx)]
  case insert t m k v => rw [h m (by simp), h k (by simp), h v (by simp)]
  case mapUpdate t m k v => rw [h m (by simp), h k (by simp), h v (by simp)]
  case store t a v => rw [h a (by simp), h v (by simp)]
  case makeMap t r =>
    cases r with
    | none => rfl
    | some r => simp only; rw [h r (by simp)]
  case makeSlice t l c => rw [h l (by simp), h c (by simp)]
  case mapEntry t m k => rw [h m (by simp), h k (by simp)]
  case range t x => rw [h x (by simp)]
  case next it str => rw [h it (by simp)]
  case entry it => rw [h it (by simp)]
  case entryStore t m s v => rw [h m (by simp), h s (by simp), h v (by simp)]
  case panic x => rw [h x (by simp)]
  case call c =>
    obtain ⟨callee, args, tys⟩ := c
    have ha : ∀ x ∈ args.toList, e.ev x = e'.ev x := fun x hx => h x (by simp at hx; simp [Call.operands, hx])
    cases callee <;> simp only
    case builtin bb => rw [map_ev ha]
    case value f => rw [map_ev ha, h f (by simp [Call.operands])]
    case invoke r name => rw [map_ev ha, h r (by simp [Call.operands])]

theorem mem_tmpsOf {xs : List Operand} {t : Nat} (h : Operand.tmp t ∈ xs) : t ∈ tmpsOf xs := List.mem_filterMap.2 ⟨.tmp t, h, rfl⟩

theorem opOut_congr {X : Ctx} {all : Array Oper} {o : Oper} {e e' : Env} {S : St} (h : ∀ s ∈ usesOf all o, e.t s = e'.t s) : opOut X all o e S = opOut X all o e' S := by
  have hx : ∀ x ∈ o.op.operands, e.ev x = e'.ev x := fun x hx => ev_congr fun t q => by
    subst q
    exact h t (List.mem_append_right _ (mem_tmpsOf (by simpa using hx)))
  have hw : wantedA all o e = wantedA all o e' := by
    unfold wantedA
    cases hg : o.guard with
    | none => rfl
    | some q =>
      obtain ⟨j, want⟩ := q
      have : yieldedA all e j = yieldedA all e' j := by
        unfold yieldedA
        cases hd : (all[j]?).bind (·.dst) with
        | none => rfl
        | some d => exact h d (List.mem_append_left _ (by simp [hg, hd]))
      simp only [this]
  by_cases hdf : ∃ c, o.op = .defer c
  · obtain ⟨c, hc⟩ := hdf
    unfold opOut
    rw [hc] at hx ⊢
    simp only
    obtain ⟨callee, args, tys⟩ := c
    have ha : ∀ x ∈ args.toList, e.ev x = e'.ev x := fun x hx' => hx x (by simp at hx'; simp [Op.operands, Call.operands, hx'])
    cases callee
    rename_i f
    · cases o.guard <;> cases X.round <;> try rfl
      simp only
      rw [map_ev ha, hx f (by simp [Op.operands, Call.operands])]
    · cases o.guard <;> rfl
    · cases o.guard <;> rfl
  · have hdf' : ∀ c, o.op ≠ .defer c := fun c q => hdf ⟨c, q⟩
    unfold opOut
    split
    · rename_i c hc; exact (hdf' c hc).elim
    · rw [hw, pureOp_congr hx, actOp_congr hx]

/- States -/

theorem pureOp_still {P : Program} {op : Op} {e : Env} {S S2 : St} (hr : reads op = false) : pureOp P op e S = pureOp P op e S2 := by
  cases op <;> try (first | rfl | (cases hr; done))
  case makeFunc fn a b => cases fn <;> rfl
  case call c =>
    obtain ⟨callee, args, tys⟩ := c
    cases callee <;> try rfl
    rename_i bb
    cases bb <;> first | rfl | cases hr

theorem movable_of_pure {X : Ctx} {o : Oper} (h : isPure o.op = true) : movable X o = true := by
  unfold movable
  split
  · rename_i c hc; rw [hc] at h; cases h
  · rename_i f args tys hc; rw [hc] at h; cases h
  · rename_i t l ps hc; rw [hc] at h; cases h
  · exact h

theorem opOut_pure {X : Ctx} {all : Array Oper} {o : Oper} {e : Env} {S : St} (hp : isPure o.op = true) : opOut X all o e S =
    (match o.guard with
        | none => pureOp X.P o.op e S
        | some (j, want) => guardP (yieldedA all e j) want (pureOp X.P o.op e S)).map fun v => .val v none S := by
  refine Eq.trans ?_ (congrArg (fun z => Option.map (fun v => OO.val v none S) z) (guardP_eq (all := all) (o := o) (e := e) (x := pureOp X.P o.op e S)).symm)
  unfold opOut
  split
  · rename_i c hc; rw [hc] at hp; cases hp
  · simp only [hp, cond_true]
    cases wantedA all o e with
    | none => rfl
    | some t => cases t <;> rfl

theorem opOut_still {X : Ctx} {all : Array Oper} {o : Oper} {e : Env} {S S2 : St} {v : AV} (hp : isPure o.op = true) (hr : reads o.op = false) (h : opOut X all o e S = some (.val v none S)) :
    opOut X all o e S2 = some (.val v none S2) := by
  rw [opOut_pure hp] at h ⊢
  rw [pureOp_still (S := S2) (S2 := S) hr]
  simp only [Option.map_eq_some_iff] at h ⊢
  obtain ⟨u, h, q⟩ := h
  cases q
  exact ⟨v, h, rfl⟩

theorem shut_or {args : List AV} {S : St} {u : AV} (h : lentArgs args S = some u) : (∃ a, shutL args = some a) ∨ shutL args = none ∧ ∃ a b, freezeL .unk S args = some a ∧ freezeL .lent S args = some b ∧ u = .tup [.tup a, .tup b] := by
  unfold lentArgs at h
  split at h
  · exact .inl ⟨_, by assumption⟩
  · simp only [Option.bind_eq_some_iff, Option.map_eq_some_iff] at h
    obtain ⟨a, h1, b, h2, rfl⟩ := h
    exact .inr ⟨by assumption, a, b, h1, h2, rfl⟩

theorem apart_lent {κ : Oracle} {f : FuncId} {args : List AV} {S S2 : St} {a : Ans} {S' : St} (h : apart κ f args S = some (a, S')) {u : AV} (h1 : lentArgs args S = some u) (h2 : lentArgs args S2 = some u) :
    S' = S ∧ apart κ f args S2 = some (a, S2) := by
  unfold apart at h ⊢
  rcases shut_or h1 with ⟨as, hs⟩ | ⟨hs, a1, b1, f1, l1, rfl⟩
  · simp only [hs] at h ⊢
    cases hc : κ.call f as St.none with
    | none => simp only [hc] at h; cases h
    | some q =>
      obtain ⟨x, S1⟩ := q
      cases x with
      | ret v =>
        simp only [hc, Option.map_eq_some_iff, Prod.mk.injEq] at h ⊢
        obtain ⟨v', hf, rfl, rfl⟩ := h
        exact ⟨rfl, v', hf, rfl, trivial⟩
      | panic v =>
        simp only [hc, Option.map_eq_some_iff, Prod.mk.injEq] at h ⊢
        obtain ⟨v', hf, rfl, rfl⟩ := h
        exact ⟨rfl, v', hf, rfl, trivial⟩
  · rcases shut_or h2 with ⟨as, hs'⟩ | ⟨_, a2, b2, f2, l2, q⟩
    · rw [hs] at hs'; cases hs'
    · simp only [AV.tup.injEq, List.cons.injEq, and_true] at q
      obtain ⟨rfl, rfl⟩ := q
      simp only [hs, f1, f2, l1, l2, Option.bind_some] at h ⊢
      cases hc : κ.call f a1 St.none with
      | none => simp only [hc] at h; cases h
      | some q =>
        obtain ⟨x, S1⟩ := q
        cases x with
        | panic v => simp only [hc] at h; cases h
        | ret v =>
          simp only [hc] at h ⊢
          cases hv : scalarA v
          · simp only [hv, cond_false] at h ⊢
            cases hc2 : κ.call f b1 St.none with
            | none => simp only [hc2] at h; cases h
            | some q2 =>
              obtain ⟨x2, S3⟩ := q2
              cases x2 with
              | panic v => simp only [hc2] at h; cases h
              | ret v2 =>
                simp only [hc2, Option.map_eq_some_iff, Prod.mk.injEq] at h ⊢
                obtain ⟨v', hf, rfl, rfl⟩ := h
                exact ⟨rfl, v', hf, rfl, trivial⟩
          · simp only [hv, cond_true, Option.some.injEq, Prod.mk.injEq] at h ⊢
            obtain ⟨rfl, rfl⟩ := h
            exact ⟨rfl, rfl, trivial⟩

theorem apart_same {κ : Oracle} {f : FuncId} {args : List AV} {S : St} {a : Ans} {S' : St} (h : apart κ f args S = some (a, S')) : S' = S := by
  unfold apart at h
  split at h
  · split at h
    · simp only [Option.map_eq_some_iff, Prod.mk.injEq] at h
      obtain ⟨_, _, _, q⟩ := h; exact q.symm
    · simp only [Option.map_eq_some_iff, Prod.mk.injEq] at h
      obtain ⟨_, _, _, q⟩ := h; exact q.symm
    · cases h
  · simp only [Option.bind_eq_some_iff] at h
    obtain ⟨_, _, h⟩ := h
    split at h
    · rename_i v _ _
      cases hv : scalarA v
      · simp only [hv, cond_false, Option.bind_eq_some_iff] at h
        obtain ⟨_, _, h⟩ := h
        split at h
        · simp only [Option.map_eq_some_iff, Prod.mk.injEq] at h
          obtain ⟨_, _, _, q⟩ := h; exact q.symm
        · cases h
      · simp only [hv, cond_true, Option.some.injEq, Prod.mk.injEq] at h
        exact h.2.symm
    · cases h

/-- An operation that may be done at any place: it leaves the state, and gives the same in all states that look the same to it. -/
theorem opOut_mov {X : Ctx} {all : Array Oper} {o : Oper} {e : Env} {S S' : St} {v : AV} {d : Option ADef} (hm : movable X o = true) (h : opOut X all o e S = some (.val v d S')) :
    d = none ∧ S' = S ∧ (isPure o.op = false → ∀ S2, (∀ c, o.op = .call c → ∃ u, lentArgs (c.args.toList.map e.ev) S = some u ∧ lentArgs (c.args.toList.map e.ev) S2 = some u) → opOut X all o e S2 = some (.val v none S2)) := by
  cases hp : isPure o.op
  · unfold opOut at h
    split at h
    · rename_i c hc
      unfold movable at hm; rw [hc] at hm; cases hm
    · rename_i hnd
      simp only [hp, cond_false, Option.map_eq_some_iff] at h
      obtain ⟨⟨a, S1⟩, hw, h⟩ := h
      have hS2 : ∀ S2, opOut X all o e S2 = (match wantedA all o e with | some true => actOp X o.op o.dst e S2 | some false => some (.ret undefA, S2) | none => none).map ooA := fun S2 => by
        unfold opOut
        split
        · rename_i c hc; exact (hnd c hc).elim
        · simp only [hp, cond_false]
      cases a with
      | panic u => cases h
      | ret u =>
        simp only [ooA, OO.val.injEq] at h
        obtain ⟨rfl, rfl, rfl⟩ := h
        cases hwa : wantedA all o e with
        | none => rw [hwa] at hw; cases hw
        | some t =>
          rw [hwa] at hw
          cases t
          · simp only [Option.some.injEq, Prod.mk.injEq, Ans.ret.injEq] at hw
            obtain ⟨rfl, rfl⟩ := hw
            exact ⟨rfl, rfl, fun _ S2 _ => by rw [hS2, hwa]; rfl⟩
          · simp only at hw
            unfold movable at hm
            split at hm
            · cases hm
            · rename_i f args tys hc
              rw [hc] at hw hp
              simp only [actOp, Env.ev, callV, hm, cond_true, List.nil_append, List.append_nil] at hw
              have hs := apart_same hw
              subst hs
              refine ⟨rfl, rfl, fun _ S2 hl => ?_⟩
              obtain ⟨u, l1, l2⟩ := hl _ hc
              have := (apart_lent hw l1 l2).2
              rw [hS2, hwa, hc]
              simp only [actOp, Env.ev, callV, hm, cond_true, List.nil_append, List.append_nil]
              rw [this]; rfl
            · rename_i t len ps hc
              rw [hc] at hw
              have ho : X.ownAt o.dst = false := by
                unfold Ctx.ownAt
                cases hd : o.dst with
                | none => rfl
                | some dd => rw [hd] at hm; simpa using hm
              simp only [actOp, ho, cond_false, Option.bind_eq_some_iff, Option.some.injEq, Prod.mk.injEq] at hw
              obtain ⟨r, h1, h2, rfl⟩ := hw
              refine ⟨rfl, rfl, fun _ S2 _ => ?_⟩
              rw [hS2, hwa, hc]
              simp only [actOp, ho, cond_false, h1, Option.bind_some]
              simp only [Ans.ret.injEq] at h2
              rw [h2]; rfl
            · rw [hp] at hm; cases hm
  · rw [opOut_pure hp] at h
    simp only [Option.map_eq_some_iff, OO.val.injEq] at h
    obtain ⟨u, _, _, rfl, rfl⟩ := h
    exact ⟨rfl, rfl, fun q => by cases q⟩

/- Equality by look -/

mutual
theorem same_eq : ∀ (a b : AV), same a b = true → a = b
  | .bool a, b, h => by cases b <;> simp [same] at h; subst h; rfl
  | .int k a, b, h => by cases b <;> simp [same] at h; obtain ⟨rfl, rfl⟩ := h; rfl
  | .str a, b, h => by cases b <;> simp [same] at h; subst h; rfl
  | .ptr o f, b, h => by cases b <;> simp [same] at h; obtain ⟨rfl, rfl⟩ := h; rfl
  | .nilptr, b, h => by cases b <;> simp [same] at h; rfl
  | .eptr r a, b, h => by
    cases b <;> simp [same] at h
    obtain ⟨h1, rfl⟩ := h
    rw [sameL_eq _ _ h1]
  | .lst st sz rows, b, h => by
    cases b <;> simp [same] at h
    obtain ⟨⟨rfl, rfl⟩, h1⟩ := h
    rw [sameL_eq _ _ h1]
  | .sl .., b, h => by cases b <;> simp [same] at h; obtain ⟨⟨⟨⟨rfl, rfl⟩, rfl⟩, rfl⟩, rfl⟩ := h; rfl
  | .map o, b, h => by cases b <;> simp [same] at h; subst h; rfl
  | .nilmap, b, h => by cases b <;> simp [same] at h; rfl
  | .func f a c, b, h => by
    cases b <;> simp [same] at h
    obtain ⟨⟨rfl, h1⟩, h2⟩ := h
    rw [sameL_eq _ _ h1, sameL_eq _ _ h2]
  | .yld o, b, h => by cases b <;> simp [same] at h; subst h; rfl
  | .nilfunc, b, h => by cases b <;> simp [same] at h; rfl
  | .iface t v, b, h => by
    cases b <;> simp [same] at h
    obtain ⟨rfl, h1⟩ := h
    rw [same_eq _ _ h1]
  | .niliface, b, h => by cases b <;> simp [same] at h; rfl
  | .agg a, b, h => by
    cases b <;> simp [same] at h
    rw [sameL_eq _ _ h]
  | .tup a, b, h => by
    cases b <;> simp [same] at h
    rw [sameL_eq _ _ h]
  | .junk, b, h => by cases b <;> simp [same] at h
theorem sameL_eq : ∀ (a b : List AV), sameL a b = true → a = b
  | [], b, h => by cases b <;> simp [sameL] at h; rfl
  | a :: as, b, h => by
    cases b <;> simp [sameL] at h
    rw [same_eq _ _ h.1, sameL_eq _ _ h.2]
end

theorem check_get {before : Array Nat} {s : Seen} (h : checkReads before s = true) {i a : Nat} {f : St → Option AV} {v : AV} {Sa Sb : St} (hr : (i, f, v) ∈ s.rd) (ha : (a, Sa, Sb) ∈ s.an) (hu : unord before i a = true) :
    f Sa = some v ∧ f Sb = some v := by
  unfold checkReads at h
  have h := List.all_eq_true.1 h _ hr
  simp only at h
  have h := List.all_eq_true.1 h _ ha
  simp only [hu, Bool.not_true, Bool.false_or, Bool.and_eq_true] at h
  obtain ⟨h1, h2⟩ := h
  constructor
  · split at h1
    · rename_i u hf; rw [hf, same_eq _ _ h1]
    · cases h1
  · split at h2
    · rename_i u hf; rw [hf, same_eq _ _ h2]
    · cases h2

end Go.Sac
