/- A region that draws its order, in whatever order. -/
import Derived.Test.YtippafigppeblaaGreatSacAg
namespace Go.Sac
set_option linter.unusedVariables false
set_option linter.unusedSimpArgs false
open Go

section
variable {X : Ctx} {all : Array Oper} {before : Array Nat} {sE : Seen} {pj : Option Nat} {j : Nat} {o : Oper} {e e' : Env} {S S' : St}

theorem put_ne {dst : Option Nat} {v : AV} {s : Nat} (h : dst ≠ some s) : (e.put dst v).t s = e.t s := by
  cases dst with
  | none => rfl
  | some d =>
    simp only [Env.put, Env.set]
    have : Nat.beq s d = false := by
      cases hb : Nat.beq s d
      · rfl
      · exfalso; apply h; simpa using (by simpa using hb : s = d).symm
    simp [this]

theorem put_d {dst : Option Nat} {v : AV} : (e.put dst v).d = e.d := by cases dst <;> rfl
theorem put_eq {dst : Option Nat} {v : AV} {s : Nat} (h : dst = some s) : (e.put dst v).t s = v := by subst h; simp [Env.put, Env.set]

theorem Fact.inv (h : Fact X all before sE pj j o e S e' S') : (hoisted o = true ∧ e' = e ∧ S' = S) ∨
    (∃ v, hoisted o = false ∧ movable X o = true ∧ opOut X all o e S = some (.val v none S) ∧ (∀ a Sa Sb, (a, Sa, Sb) ∈ sE.an → unord before j a = true → opOut X all o e Sa = some (.val v none Sa) ∧ opOut X all o e Sb = some (.val v none Sb)) ∧ e' = e.put o.dst v ∧ S' = S) ∨
    (∃ v d, hoisted o = false ∧ movable X o = false ∧ opOut X all o e S = some (.val v d S') ∧ (j, S, S') ∈ sE.an ∧ (∀ p, pj = some p → j < p) ∧ e' = e.after v d o.dst) ∨
    (pj = some j ∧ hoisted o = false ∧ movable X o = false ∧ e' = e ∧ S' = S) ∨ (∃ p, pj = some p ∧ (before.getD j 0).testBit p = true ∧ e' = e ∧ S' = S) := by
  cases h with
  | hoi h => exact .inl ⟨h, rfl, rfl⟩
  | mov v h1 h2 h3 h4 => exact .inr (.inl ⟨v, h1, h2, h3, h4, rfl, rfl⟩)
  | anc v d _ h1 h2 h3 h4 h5 => exact .inr (.inr (.inl ⟨v, d, h1, h2, h3, h4, h5, rfl⟩))
  | pan h1 h2 h3 => exact .inr (.inr (.inr (.inl ⟨h1, h2, h3, rfl, rfl⟩)))
  | nev p h1 h2 => exact .inr (.inr (.inr (.inr ⟨p, h1, h2, rfl, rfl⟩)))

theorem Fact.st (h : Fact X all before sE pj j o e S e' S') : S' = S ∨ (anch X o = true ∧ (j, S, S') ∈ sE.an) := by
  rcases h.inv with ⟨_, _, q⟩ | ⟨v, _, _, _, _, _, q⟩ | ⟨v, d, h1, h2, _, q, _⟩ | ⟨_, _, _, _, q⟩ | ⟨p, _, _, _, q⟩
  · exact .inl q
  · exact .inl q
  · exact .inr ⟨by simp [anch, h1, h2], q⟩
  · exact .inl q
  · exact .inl q

theorem Fact.calm (h : Fact X all before sE pj j o e S e' S') (ha : anch X o = false) : S' = S ∧ e'.d = e.d := by
  rcases h.inv with ⟨_, p, q⟩ | ⟨v, _, _, _, _, p, q⟩ | ⟨v, d, h1, h2, _, q, _⟩ | ⟨_, _, _, p, q⟩ | ⟨_, _, _, p, q⟩
  · exact ⟨q, by rw [p]⟩
  · exact ⟨q, by rw [p, put_d]⟩
  · simp [anch, h1, h2] at ha
  · exact ⟨q, by rw [p]⟩
  · exact ⟨q, by rw [p]⟩

theorem Fact.slot (h : Fact X all before sE pj j o e S e' S') {s : Nat} (hs : o.dst ≠ some s ∨ hoisted o = true) : e'.t s = e.t s := by
  rcases h.inv with ⟨_, p, q⟩ | ⟨v, hh, _, _, _, p, q⟩ | ⟨v, d, hh, _, _, _, _, p⟩ | ⟨_, _, _, p, q⟩ | ⟨_, _, _, p, q⟩
  · rw [p]
  · rw [p, put_ne]
    rcases hs with q | q
    · exact q
    · rw [hh] at q; cases q
  · rw [p, Env.after, put_ne]
    rcases hs with q | q
    · exact q
    · rw [hh] at q; cases q
  · rw [p]
  · rw [p]
end

theorem Pt.congr {n : Nat} {up : Up} {G : Gh} {S : St} {w : World} {e e' : Env} {a : Act} (h : Pt n up G S w e a) (ht : ∀ s, e'.t s = e.t s) (hd : e'.d = e.d) : Pt n up G S w e' a :=
  ⟨h.inv, fun s => by rw [ht s]; exact h.tmps s, h.size, by rw [hd]; exact h.defs, h.pan, h.shape⟩

theorem Step.place {G0 G : Gh} {S0 S : St} {w0 w w' : World} (h : Step G0 S0 w0 G S w) {o m : Nat} (hge : S0.objs.length ≤ o) (hun : G.obj o = .un) (hs : w'.heap.size = w.heap.size + 1)
    (hb : ∀ c, c < w.heap.size → w'.heap[c]? = w.heap[c]?) (ho : w'.os = w.os) (ht : w'.tape = w.tape) (hu : w'.output = w.output) : Step G0 S0 w0 (G.newObj o w.heap.size m) S w' :=
  { h.toMono.trans (Mono.newObj hun) with
    un := fun i l e => by
      obtain ⟨p, q⟩ := h.un i l e
      refine ⟨?_, q⟩
      simp only [Gh.newObj]
      rw [if_neg (by omega)]; exact p
    len := h.len
    heap := fun c l q => (hb c (Nat.lt_of_lt_of_le l h.size)).trans (h.heap c l q)
    size := by rw [hs]; have := h.size; omega
    old := fun c l q off => h.old c l q off
    own := fun c l q => h.own c l (by
      rcases q with ⟨i, q⟩ | q
      · simp only [Gh.newObj] at q
        split at q
        · injection q with q; have := h.size; omega
        · exact .inl ⟨i, q⟩
      · exact .inr q)
    os := ho.trans h.os
    tape := ht.trans h.tape
    output := hu.trans h.output }

theorem Inv.more {G : Gh} {S : St} {w : World} (h : Inv G S w) (l : List AObj) : Inv G { S with objs := S.objs ++ l } w := by
  have get : ∀ o x, S.objs[o]? = some x → (S.objs ++ l)[o]? = some x := fun o x q => by
    rw [List.getElem?_append_left (List.getElem?_eq_some_iff.1 q).1]; exact q
  exact ⟨fun o b e => by obtain ⟨x, p, q⟩ := h.obj o b e; exact ⟨x, get _ _ p, q⟩, fun o e => get _ _ (h.dead o e), h.inj, fun o q => h.beyond o (by simp at q; omega), h.mem, h.away, h.tip, h.tipobj, h.tiptip, h.pan, h.room, h.lentlt⟩

theorem Step.more (G : Gh) (S : St) (w : World) (l : List AObj) : Step G S w G { S with objs := S.objs ++ l } w :=
  { Mono.refl G with un := fun o q e => ⟨e, List.getElem?_append_left q⟩, len := by simp, heap := fun _ _ _ => rfl, size := Nat.le_refl _, old := fun _ _ _ _ => rfl, own := fun _ _ h => h, os := rfl, tape := rfl, output := rfl }

/-- A hoisted operation at its place. -/
theorem hoist_run {P : Program} {G : Gh} {S : St} {w : World} {o : Oper} (inv : Inv G S w) (hh : hoisted o = true) (hk : hok P o) {h : Nat} (hun : G.obj h = .un) (hx : S.objs[h]? = some (hobj P o)) (ro : Option Nat) (ρ : Operand → Value) :
    ∃ cv w' m, (o.semAt ro ρ).run P w = .ok (.value cv) w' ∧ Inv (G.newObj h w.heap.size m) S w' ∧ Mono G (G.newObj h w.heap.size m) ∧ Rel (G.newObj h w.heap.size m) (hval o h) cv ∧
      w'.heap.size = w.heap.size + 1 ∧ (∀ c, c < w.heap.size → w'.heap[c]? = w.heap[c]?) ∧ w'.os = w.os ∧ w'.tape = w.tape ∧ w'.output = w.output ∧ o.guard = none := by
  unfold hoisted at hh
  split at hh
  · rename_i t hop hg
    have ht := hk t hop
    obtain ⟨i, z, hi, hz, _, _⟩ := okT_spec ht
    obtain ⟨h1, h2, h3⟩ := alloc_heap w (.cells (z.cells.toList ++ []).toArray t)
    have hm : Mono G (G.newObj h w.heap.size (z.cells.toList ++ ([] : List Value)).length) := Mono.newObj hun
    have hxo : hobj P o = .cells (zeroT P t) := by unfold hobj; rw [hop]
    rw [hxo] at hx
    obtain ⟨p1, p2⟩ := inv.place (w' := w.alloc (.cells (z.cells.toList ++ []).toArray t)) (z.cells.toList ++ ([] : List Value)).length hun hx h1 h2
      ⟨z.cells.toList, [], t, h3, RelL.mono hm _ _ (zeroT_rel (G := G) hi hz), okT_scal ht⟩ (by intro c e f hc; rw [h3] at hc; cases hc; simp) rfl rfl rfl
    refine ⟨.pointer (some ⟨w.heap.size, 0, none⟩), _, _, ?_, p1, p2, ?_, h1, h2, rfl, rfl, rfl, hg⟩
    · rw [Oper.semAt_eq _ _ _ (by intro c q; rw [hop] at q; cases q)]
      obtain ⟨dst, op, ty, pos, after, guard⟩ := o
      simp only at hop; subst hop
      simp [execOp, Instr.alloc, run_zeroValue' hi hz, newVar, newRow]
    · unfold hval; rw [hop]; simp [Rel, Gh.newObj]
  · rename_i t hop hg
    obtain ⟨h1, h2, h3⟩ := alloc_heap w (.map #[] 0)
    have hxo : hobj P o = .map [] 0 := by unfold hobj; rw [hop]
    rw [hxo] at hx
    obtain ⟨p1, p2⟩ := inv.place (w' := w.alloc (.map #[] 0)) 0 hun hx h1 h2 ⟨#[], h3, rfl⟩ (by intro c e f hc; rw [h3] at hc; cases hc) rfl rfl rfl
    refine ⟨.map (some w.heap.size), _, _, ?_, p1, p2, ?_, h1, h2, rfl, rfl, rfl, hg⟩
    · rw [Oper.semAt_eq _ _ _ (by intro c q; rw [hop] at q; cases q)]
      obtain ⟨dst, op, ty, pos, after, guard⟩ := o
      simp only at hop; subst hop
      simp [execOp, Instr.makeMap]
    · unfold hval; rw [hop]; simp [Rel, Gh.newObj]
  · cases hh

structure Plan (X : Ctx) (all : Array Oper) (kp : AV → Env → St → R) (k : Env → St → R) (r : Ans × St) (e0 : Env) (S0 : St) (e1 : Env) (S1 : St) (ho : Nat → Nat) (en : Nat → Env) (st : Nat → St) (sE : Seen) (pj : Option Nat) : Prop where
  sl : SlotsOk all
  an : ∀ {i j o p}, all[j]? = some o → all[i]? = some p → i < j → anch X o = true → anch X p = true → ((Region.before all).getD j 0).testBit i = true
  D : Data X all (Region.before all) kp k r 0 e1 S1 ⟨[], []⟩ en st sE pj
  H : HData X all 0 e0 S0 e1 S1 ho

open Classical in
noncomputable def envOn (all : Array Oper) (en : Nat → Env) (e0 : Env) (listed : Array Bool) (d : List ADef) : Env :=
  ⟨fun s => if (∃ (j : Nat) (o : Oper), all[j]? = some o ∧ listed.getD j false = true ∧ o.dst = some s) then (en all.size).t s else e0.t s, d⟩

section
variable {X : Ctx} {all : Array Oper} {kp : AV → Env → St → R} {k : Env → St → R} {r : Ans × St} {e0 : Env} {S0 : St} {e1 : Env} {S1 : St} {ho : Nat → Nat} {en : Nat → Env} {st : Nat → St} {sE : Seen} {pj : Option Nat}

theorem Plan.fact (P : Plan X all kp k r e0 S0 e1 S1 ho en st sE pj) {j : Nat} {o : Oper} (h : all[j]? = some o) : Fact X all (Region.before all) sE pj j o (en j) (st j) (en (j + 1)) (st (j + 1)) := P.D.fact j o (Nat.zero_le _) h

theorem Plan.slots (P : Plan X all kp k r e0 S0 e1 S1 ho en st sE pj) {m s : Nat} : ∀ {m' : Nat}, m ≤ m' → m' ≤ all.size → (∀ (j : Nat) (o : Oper), m ≤ j → j < m' → all[j]? = some o → o.dst ≠ some s ∨ hoisted o = true) → (en m').t s = (en m).t s := by
  intro m' h
  induction h with
  | refl => intros; rfl
  | @step m' h ih =>
    intro hl hd
    have hlt : m' < all.size := hl
    rw [(P.fact (Array.getElem?_eq_getElem hlt)).slot (hd m' _ h (Nat.lt_succ_self _) (Array.getElem?_eq_getElem hlt))]
    exact ih (by omega) fun j o a b c => hd j o a (by omega) c

theorem Plan.still (P : Plan X all kp k r e0 S0 e1 S1 ho en st sE pj) {m : Nat} : ∀ {m' : Nat}, m ≤ m' → m' ≤ all.size → (∀ (j : Nat) (o : Oper), m ≤ j → j < m' → all[j]? = some o → anch X o = false) → st m' = st m ∧ (en m').d = (en m).d := by
  intro m' h
  induction h with
  | refl => intros; exact ⟨rfl, rfl⟩
  | @step m' h ih =>
    intro hl hd
    have hlt : m' < all.size := hl
    obtain ⟨p, q⟩ := (P.fact (Array.getElem?_eq_getElem hlt)).calm (hd m' _ h (Nat.lt_succ_self _) (Array.getElem?_eq_getElem hlt))
    obtain ⟨p', q'⟩ := ih (by omega) fun j o a b c => hd j o a (by omega) c
    exact ⟨p.trans p', q.trans q'⟩

theorem Plan.start (P : Plan X all kp k r e0 S0 e1 S1 ho en st sE pj) {s : Nat} (h : ∀ (j : Nat) (o : Oper), all[j]? = some o → hoisted o = true → o.dst ≠ some s) : (en 0).t s = e0.t s := by
  rw [P.D.e0]; exact P.H.t s fun j o _ a b => h j o a b

/-- What an operation reads is there. -/
theorem Plan.sees (P : Plan X all kp k r e0 S0 e1 S1 ho en st sE pj) {listed : Array Bool} (hc : Closed' all listed) {i : Nat} {o : Oper} (hi : all[i]? = some o) (hn : listed.getD i false = false)
    (hr : ∀ e ∈ o.after.toList, Region.binds .any e = true → listed.getD e.on false = true) (d : List ADef) : ∀ s ∈ usesOf all o, (envOn all en e0 listed d).t s = (en i).t s := by
  intro s hs
  have hil := get_lt hi
  by_cases hw : ∃ (m : Nat) (p : Oper), all[m]? = some p ∧ p.dst = some s
  · obtain ⟨m, p, hm, hd⟩ := hw
    have only : ∀ (j : Nat) (q : Oper), all[j]? = some q → q.dst = some s → j = m := fun j q h1 h2 => P.sl.uniq _ _ _ _ _ h1 hm h2 hd
    rcases P.sl.uses i o s m p hi hs hm hd with hb | ⟨hh, hb⟩
    · have hlm : listed.getD m false = true := closed_bit hc i o hi hr m hb
      have hmi := bit_lt P.sl hi hb
      have : ∃ (j : Nat) (o : Oper), all[j]? = some o ∧ listed.getD j false = true ∧ o.dst = some s := ⟨m, p, hm, hlm, hd⟩
      simp only [envOn, if_pos this]
      refine P.slots (by omega) (Nat.le_refl _) fun j q a b c => .inl fun hq => ?_
      have := only j q c hq; omega
    · have him := bit_lt P.sl hm hb
      have hlm : listed.getD m false = false := by
        cases hl : listed.getD m false
        · rfl
        · have := closed_bit hc m p hm (hc m p hm hl) i hb
          rw [hn] at this; cases this
      have : ¬ ∃ (j : Nat) (o : Oper), all[j]? = some o ∧ listed.getD j false = true ∧ o.dst = some s := by
        rintro ⟨j, q, h1, h2, h3⟩
        have := only j q h1 h3
        subst this
        rw [hlm] at h2; cases h2
      simp only [envOn, if_neg this]
      rw [P.slots (m := 0) (Nat.zero_le _) (Nat.le_of_lt hil) fun j q a b c => .inl fun hq => by have := only j q c hq; omega]
      refine (P.start fun j q h1 h2 h3 => ?_).symm
      have := only j q h1 h3
      subst this
      rw [hm] at h1; cases h1
      rw [hh] at h2; cases h2
  · have no : ∀ (j : Nat) (q : Oper), all[j]? = some q → q.dst ≠ some s := fun j q h1 h2 => hw ⟨j, q, h1, h2⟩
    have : ¬ ∃ (j : Nat) (o : Oper), all[j]? = some o ∧ listed.getD j false = true ∧ o.dst = some s := by
      rintro ⟨j, q, h1, _, h3⟩; exact no j q h1 h3
    simp only [envOn, if_neg this]
    rw [P.slots (m := 0) (Nat.zero_le _) (Nat.le_of_lt hil) fun j q a b c => .inl (no j q c)]
    exact (P.start fun j q h1 _ => no j q h1).symm

theorem Plan.puts (P : Plan X all kp k r e0 S0 e1 S1 ho en st sE pj) {listed : Array Bool} (hs : listed.size = all.size) {i : Nat} {o : Oper} (hi : all[i]? = some o) {v : AV} (hv : ∀ s, o.dst = some s → v = (en all.size).t s) (d d' : List ADef) (e : Env) (he : e.t = (envOn all en e0 listed d).t) :
    ∀ s, (envOn all en e0 (listed.setIfInBounds i true) d').t s = (e.put o.dst v).t s := by
  intro s
  have hil := get_lt hi
  by_cases q : o.dst = some s
  · have : ∃ (j : Nat) (o : Oper), all[j]? = some o ∧ (listed.setIfInBounds i true).getD j false = true ∧ o.dst = some s := ⟨i, o, hi, getD_set_eq (by omega), q⟩
    simp only [envOn, if_pos this]
    rw [put_eq q, hv s q]
  · rw [put_ne q, he]
    have : (∃ (j : Nat) (o : Oper), all[j]? = some o ∧ (listed.setIfInBounds i true).getD j false = true ∧ o.dst = some s) ↔ ∃ (j : Nat) (o : Oper), all[j]? = some o ∧ listed.getD j false = true ∧ o.dst = some s := by
      constructor
      · rintro ⟨j, p, h1, h2, h3⟩
        have : j ≠ i := by rintro rfl; rw [hi] at h1; cases h1; exact q h3
        exact ⟨j, p, h1, by rwa [getD_set_ne this] at h2, h3⟩
      · rintro ⟨j, p, h1, h2, h3⟩
        have : j ≠ i := by rintro rfl; rw [hi] at h1; cases h1; exact q h3
        exact ⟨j, p, h1, by rwa [getD_set_ne this], h3⟩
    simp only [envOn]
    by_cases hx : ∃ (j : Nat) (o : Oper), all[j]? = some o ∧ listed.getD j false = true ∧ o.dst = some s
    · rw [if_pos hx, if_pos (this.2 hx)]
    · rw [if_neg hx, if_neg fun q => hx (this.1 q)]

/-- An operation that may be done anywhere gives what it gave, in all states that it may meet. -/
theorem Plan.mov_up (P : Plan X all kp k r e0 S0 e1 S1 ho en st sE pj) {i : Nat} {o : Oper} {v : AV} (h0 : opOut X all o (en i) (st i) = some (.val v none (st i)))
    (hf : ∀ a Sa Sb, (a, Sa, Sb) ∈ sE.an → unord (Region.before all) i a = true → opOut X all o (en i) Sa = some (.val v none Sa) ∧ opOut X all o (en i) Sb = some (.val v none Sb)) :
    ∀ {m : Nat}, i ≤ m → m ≤ all.size → (∀ (a : Nat) (oa : Oper), i ≤ a → a < m → all[a]? = some oa → anch X oa = true → unord (Region.before all) i a = true) → opOut X all o (en i) (st m) = some (.val v none (st m)) := by
  intro m h
  induction h with
  | refl => intros; exact h0
  | @step m h ih =>
    intro hl hu
    have hlt : m < all.size := hl
    rcases (P.fact (Array.getElem?_eq_getElem hlt)).st with q | ⟨q, q'⟩
    · rw [q]; exact ih (by omega) fun a oa x y z u => hu a oa x (by omega) z u
    · exact (hf _ _ _ q' (hu m _ h (Nat.lt_succ_self _) (Array.getElem?_eq_getElem hlt) q)).2

theorem Plan.mov_down (P : Plan X all kp k r e0 S0 e1 S1 ho en st sE pj) {i : Nat} {o : Oper} (hil : i ≤ all.size) {v : AV} (h0 : opOut X all o (en i) (st i) = some (.val v none (st i)))
    (hf : ∀ a Sa Sb, (a, Sa, Sb) ∈ sE.an → unord (Region.before all) i a = true → opOut X all o (en i) Sa = some (.val v none Sa) ∧ opOut X all o (en i) Sb = some (.val v none Sb)) :
    ∀ (x m : Nat), m + x = i → (∀ (a : Nat) (oa : Oper), m ≤ a → a < i → all[a]? = some oa → anch X oa = true → unord (Region.before all) i a = true) → opOut X all o (en i) (st m) = some (.val v none (st m))
  | 0, m, hm, _ => by have : m = i := by omega
                      subst this; exact h0
  | x + 1, m, hm, hu => by
    have hlt : m < all.size := by omega
    rcases (P.fact (Array.getElem?_eq_getElem hlt)).st with q | ⟨q, q'⟩
    · rw [← q]; exact P.mov_down hil h0 hf x (m + 1) (by omega) fun a oa c d => hu a oa (by omega) d
    · exact (hf _ _ _ q' (hu m _ (Nat.le_refl _) (by omega) (Array.getElem?_eq_getElem hlt) q)).1

variable {b : Frame} {cs : Callers} {up : Up} {n : Nat} {Q : Machine → Prop} {kk : List Item} {G0 : Gh} {w0 : World}

structure Sim (X : Ctx) (all : Array Oper) (e0 : Env) (S0 : St) (ho : Nat → Nat) (en : Nat → Env) (st : Nat → St) (pj : Option Nat) (n : Nat) (up : Up) (G0 : Gh) (w0 : World) (listed : Array Bool) (k0 : Nat) (G : Gh) (S : St) (w : World) (a : Act) : Prop where
  size : listed.size = all.size
  closed : Closed' all listed
  kle : k0 ≤ all.size
  eqS : S = st k0
  lk : ∀ (i : Nat) (o : Oper), all[i]? = some o → anch X o = true → (listed.getD i false = true ↔ i < k0)
  pn : ∀ p, pj = some p → listed.getD p false = false
  step : Step G0 S0 w0 G S w
  pt : Pt n up G S w (envOn all en e0 listed (en k0).d) a
  un : ∀ (j : Nat) (o : Oper), all[j]? = some o → hoisted o = true → listed.getD j false = false → G.obj (ho j) = .un ∧ S.objs[ho j]? = some (hobj X.P o)

theorem closed_set {listed : Array Bool} (hc : Closed' all listed) {i : Nat} {o : Oper} (hi : all[i]? = some o) (hs : listed.size = all.size) (hr : ∀ e ∈ o.after.toList, Region.binds .any e = true → listed.getD e.on false = true) : Closed' all (listed.setIfInBounds i true) := by
  have hil := get_lt hi
  have mono : ∀ j, listed.getD j false = true → (listed.setIfInBounds i true).getD j false = true := fun j h => by
    by_cases q : j = i
    · subst q; exact getD_set_eq (by omega)
    · rw [getD_set_ne q]; exact h
  intro j p hj hl e he hb
  by_cases q : j = i
  · subst q
    rw [hi] at hj; cases hj
    exact mono _ (hr e he hb)
  · rw [getD_set_ne q] at hl
    exact mono _ (hc j p hj hl e he hb)

theorem unlisted_set {listed : Array Bool} {i j : Nat} (hs : i < listed.size) (h : (listed.setIfInBounds i true).getD j false = false) : j ≠ i ∧ listed.getD j false = false := by
  by_cases q : j = i
  · subst q; rw [getD_set_eq hs] at h; cases h
  · exact ⟨q, by rwa [getD_set_ne q] at h⟩

end
end Go.Sac
