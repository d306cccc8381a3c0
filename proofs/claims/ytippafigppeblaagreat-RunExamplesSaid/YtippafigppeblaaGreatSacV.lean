/- What is asked of calls, and calls that run apart. -/
import Derived.Test.YtippafigppeblaaGreatSacU
namespace Go.Sac
set_option linter.unusedVariables false
set_option linter.unusedSimpArgs false
open Go

def EndsAs (G : Gh) : Ans → Ending → Prop
  | .ret v, e => ∃ u, e = .returned u ∧ Rel G v u
  | .panic v, e => ∃ u, e = .panicked [{ v := u, recovered := false }] ∧ Rel G v u

/-- A call comes to what is said. -/
def CallTo (P : Program) (f : FuncId) (vargs : Array Value) (G : Gh) (S : St) (w : World) (ans : Ans) (S' : St) : Prop :=
  ∀ Q, Closed P Q → ∀ cs, (∀ G' w' fr e, Step G S w G' S' w' → Inv G' S' w' → fr.fn = f → EndsAs G' ans e → fr.leaving P w' e → Q (lone fr cs w')) → Q (lone (Frame.enter P f vargs .normal) cs w)

structure CallOk (P : Program) (κ : FuncId → List AV → St → R) : Prop where
  enter : ∀ f args S r, κ f args S = some r → ∃ fn c, P.funcs[f]? = some fn ∧ fn.body = some c ∧ fn.name ≠ "runtime.NumGoroutine"
  run : ∀ f args S ans S', κ f args S = some (ans, S') → S.pan = none → ∀ G w vargs, Inv G S w → RelL G args vargs.toList → CallTo P f vargs G S w ans S'

section
variable {P : Program} {G : Gh} {S : St} {w : World}

def Gh.fin (G : Gh) (n : Nat) (w1 : World) : Gh := { G with mem := fun b off => if b < n then G.mem b off else w1.cell? ⟨b, off, none⟩ }

/-- Behind a call that ran apart. -/
theorem fin_ok (inv : Inv G S w) {m : Nat → Nat → Option Value} {l : Nat → Bool} {G1 : Gh} {S1 : St} {w1 : World} (st : Step (Gh.bare m l) St.none w G1 S1 w1) :
    Inv (G.fin w.heap.size w1) S w1 ∧ Step G S w (G.fin w.heap.size w1) S w1 := by
  have noO : ∀ b, ¬ Owned (Gh.bare m l) b := by
    rintro b (⟨o, h⟩ | ⟨t, g, h, _⟩) <;> cases h
  have hp : ∀ b, b < w.heap.size → w1.heap[b]? = w.heap[b]? := fun b h => st.heap b h (noO b)
  have hm : Mono G (G.fin w.heap.size w1) := by
    refine ⟨fun _ _ h => .inl h, fun _ h => h, fun t g h => ⟨g, h, Nat.le_refl _, fun _ => rfl⟩, fun b off v h => ?_, fun _ _ _ => rfl, fun _ _ => rfl, fun _ => rfl⟩
    simp only [Gh.fin]; rw [if_pos (inv.mem_lt h)]; exact h
  refine ⟨⟨?_, inv.dead, inv.inj, inv.beyond, ?_, ?_, ?_, inv.tipobj, inv.tiptip, ?_, ?_, fun b h => Nat.lt_of_lt_of_le (inv.lentlt b h) st.size⟩,
    { hm with un := fun _ _ h => ⟨h, rfl⟩, len := Nat.le_refl _, heap := fun b h _ => hp b h, size := st.size, old := fun b h _ off => (by simp only [Gh.fin]; rw [if_pos h]), own := fun _ _ h => h, os := st.os, tape := st.tape, output := st.output }⟩
  · intro o b h
    obtain ⟨x, q1, q2⟩ := inv.obj o b h
    exact ⟨x, q1, (q2.mono hm).congr (hp b (inv.lt h))⟩
  · intro b off v h
    simp only [Gh.fin] at h
    split at h
    · rename_i q
      rw [cell_congr (hp b q)]; exact inv.mem b off v h
    · exact h
  · intro o b h off
    simp only [Gh.fin]; rw [if_pos (inv.lt (show G.obj o = .at b from h))]; exact inv.away o b h off
  · intro t g h
    obtain ⟨q1, q2⟩ := inv.tip t g h
    have hlt := inv.tip_lt (show G.tip t = some g from h)
    refine ⟨q1, ⟨?_, q2.fin, ?_, q2.lent⟩⟩
    · obtain ⟨c, el, q3, q4⟩ := q2.row
      exact ⟨c, el, by rw [hp g.b hlt]; exact q3, q4⟩
    · intro off l
      simp only [Gh.fin]; rw [if_pos hlt]; exact q2.free off l
  · intro v r h
    obtain ⟨u, k⟩ := inv.pan v r h
    exact ⟨u, Rel.mono hm _ _ k⟩
  · intro o b c el f h hc
    rw [hp b (inv.lt (show G.obj o = .at b from h))] at hc
    exact inv.room _ _ _ _ _ h hc

/-- What a call that ran apart hands back may be read behind it. -/
theorem fin_keeps (inv : Inv G S w) {m : Nat → Nat → Option Value} {l : Nat → Bool} {G1 : Gh} {S1 : St} {w1 : World} (st : Step (Gh.bare m l) St.none w G1 S1 w1) (i1 : Inv G1 S1 w1)
    (h : ∀ b, b < w.heap.size → l b = false → G.lent b = false ∧ ∀ off u, m b off = some u → G.mem b off = some u) : Keeps G1 (G.fin w.heap.size w1) w1 .unk := by
  have noO : ∀ b, ¬ Owned (Gh.bare m l) b := by
    rintro b (⟨o, h⟩ | ⟨t, g, h, _⟩) <;> cases h
  have hl : ∀ b, G1.lent b = l b := fun b => st.lent b
  have hbig : ∀ b, ¬ b < w.heap.size → G.lent b = false := fun b hb => by
    cases hq : G.lent b
    · rfl
    · exact (hb (inv.lentlt b hq)).elim
  refine ⟨fun b off u h1 h2 => ?_, fun o b off u h1 h2 => ?_, fun b h1 => .inr ?_, fun o b h1 => .inr ?_, .inr rfl⟩
  · simp only [Gh.fin]
    split
    · rename_i q
      rw [st.old b q (noO b) off] at h2
      exact (h b q (by rw [← hl]; exact h1)).2 off u h2
    · exact i1.mem b off u h2
  · have q : ¬ b < w.heap.size := fun q => noO b (st.own b q (.inl ⟨o, h1⟩))
    simp only [Gh.fin]; rw [if_neg q]; exact h2
  · show G.lent b = false
    by_cases q : b < w.heap.size
    · exact (h b q (by rw [← hl]; exact h1)).1
    · exact hbig b q
  · show G.lent b = false
    exact hbig b fun q => noO b (st.own b q (.inl ⟨o, h1⟩))

mutual
theorem scalar_rel {G G2 : Gh} : ∀ (a : AV) (v : Value), scalarA a = true → Rel G a v → Rel G2 a v
  | .bool b, v, h, r => by simpa [Rel] using r
  | .int k n, v, h, r => by simpa [Rel] using r
  | .str s, v, h, r => by simpa [Rel] using r
  | .nilptr, v, h, r => by simpa [Rel] using r
  | .nilmap, v, h, r => by simpa [Rel] using r
  | .nilfunc, v, h, r => by simpa [Rel] using r
  | .niliface, v, h, r => by simpa [Rel] using r
  | .lst st sz rows, v, h, r => by
    cases st <;> simp only [scalarA, Bool.false_eq_true] at h
    cases rows with
    | cons x xs => cases h
    | nil =>
      simp only [Rel] at r ⊢
      obtain ⟨a, cap, rfl, hl, ht, hr⟩ := r
      refine ⟨a, cap, rfl, hl, ht, .inl ⟨trivial, fun x e => ?_⟩⟩
      rw [ht.1] at e; cases e
  | .agg cs, v, h, r => by
    simp only [scalarA] at h
    obtain ⟨u, rfl, r⟩ := r
    exact ⟨u, rfl, scalarL_rel cs _ h r⟩
  | .tup cs, v, h, r => by
    simp only [scalarA] at h
    obtain ⟨u, rfl, r⟩ := r
    exact ⟨u, rfl, scalarL_rel cs _ h r⟩
  | .ptr _ _, _, h, _ | .sl .., _, h, _ | .map _, _, h, _ | .yld _, _, h, _ | .junk, _, h, _ | .eptr .., _, h, _ | .func .., _, h, _ | .iface .., _, h, _ => by simp [scalarA] at h
theorem scalarL_rel {G G2 : Gh} : ∀ (a : List AV) (v : List Value), scalarL a = true → RelL G a v → RelL G2 a v
  | [], v, h, r => by simpa [RelL] using r
  | x :: xs, v, h, r => by
    simp only [scalarL, Bool.and_eq_true] at h
    obtain ⟨u, us, rfl, r1, r2⟩ := r
    exact ⟨u, us, rfl, scalar_rel x u h.1 r1, scalarL_rel xs us h.2 r2⟩
end

theorem freezeL_rel {G2 : Gh} {st : Tip} (inv : Inv G S w) (kp : Keeps G G2 w st) {l r : List AV} {vs : List Value} (h : freezeL st S l = some r) (k : RelL G l vs) : RelL G2 r vs :=
  allF_rel (n := 12) (freeze_rel inv kp 12) h k

/-- A call that runs apart. -/
theorem apart_ok {κ : Oracle} (hκ : CallOk P κ.call) (inv : Inv G S w) {f : FuncId} {args : List AV} {ans : Ans} {S' : St} (h : apart κ f args S = some (ans, S')) {vargs : Array Value} (r : RelL G args vargs.toList) :
    S' = S ∧ CallTo P f vargs G S w ans S ∧ ∃ fn c, P.funcs[f]? = some fn ∧ fn.body = some c ∧ fn.name ≠ "runtime.NumGoroutine" := by
  unfold apart at h
  split at h
  · rename_i args1 hs
    have r1 : RelL (Gh.bare G.mem G.lent) args1 vargs.toList := shutL_rel _ _ _ hs r
    have i0 : Inv (Gh.bare G.mem G.lent) St.none w := inv_bare inv.mem inv.lentlt
    have hk : ∀ b, b < w.heap.size → G.lent b = false → G.lent b = false ∧ ∀ off u, G.mem b off = some u → G.mem b off = some u := fun b _ h => ⟨h, fun _ _ h => h⟩
    split at h
    · rename_i v S1 hc
      simp only [Option.map_eq_some_iff, Prod.mk.injEq] at h
      obtain ⟨v', hf, rfl, rfl⟩ := h
      refine ⟨rfl, fun Q hQ cs hend => ?_, hκ.enter _ _ _ _ hc⟩
      refine ((hκ.run _ _ _ _ _ hc rfl) _ w vargs i0 r1) Q hQ cs fun G1 w1 fr e st i1 hfn he hl => ?_
      obtain ⟨q1, q2⟩ := fin_ok inv st
      refine hend _ w1 fr e q2 q1 hfn ?_ hl
      obtain ⟨u, rfl, ru⟩ := he
      exact ⟨u, rfl, freeze_rel i1 (fin_keeps inv st i1 hk) 12 _ _ _ hf ru⟩
    · rename_i v S1 hc
      simp only [Option.map_eq_some_iff, Prod.mk.injEq] at h
      obtain ⟨v', hf, rfl, rfl⟩ := h
      refine ⟨rfl, fun Q hQ cs hend => ?_, hκ.enter _ _ _ _ hc⟩
      refine ((hκ.run _ _ _ _ _ hc rfl) _ w vargs i0 r1) Q hQ cs fun G1 w1 fr e st i1 hfn he hl => ?_
      obtain ⟨q1, q2⟩ := fin_ok inv st
      refine hend _ w1 fr e q2 q1 hfn ?_ hl
      obtain ⟨u, rfl, ru⟩ := he
      exact ⟨u, rfl, freeze_rel i1 (fin_keeps inv st i1 hk) 12 _ _ _ hf ru⟩
    · cases h
  · simp only [Option.bind_eq_some_iff] at h
    obtain ⟨args1, ha1, h⟩ := h
    have kp1 : Keeps G (Gh.bare (fun b off => w.cell? ⟨b, off, none⟩) fun _ => false) w .unk :=
      ⟨fun b off u _ h => inv.mem b off u h, fun _ _ _ _ _ h => h, fun _ _ => .inr rfl, fun _ _ _ => .inr rfl, .inr rfl⟩
    have r1 := freezeL_rel inv kp1 ha1 r
    have i0 : Inv (Gh.bare (fun b off => w.cell? ⟨b, off, none⟩) fun _ => false) St.none w := inv_bare (fun _ _ _ h => h) (by intro b e; cases e)
    split at h
    · rename_i v S1 hc
      cases hsc : scalarA v
      · simp only [hsc, cond_false, Option.bind_eq_some_iff] at h
        obtain ⟨args2, ha2, h⟩ := h
        have kp2 : Keeps G (Gh.bare (fun b off => w.cell? ⟨b, off, none⟩) fun b => decide (b < w.heap.size)) w .lent :=
          ⟨fun b off u _ h => inv.mem b off u h, fun _ _ _ _ _ h => h, fun _ _ => .inl rfl, fun _ _ _ => .inl rfl, .inl rfl⟩
        have r2 := freezeL_rel inv kp2 ha2 r
        have i2 : Inv (Gh.bare (fun b off => w.cell? ⟨b, off, none⟩) fun b => decide (b < w.heap.size)) St.none w := inv_bare (fun _ _ _ h => h) (by intro b e; simpa using e)
        split at h
        · rename_i v2 S2 hc2
          simp only [Option.map_eq_some_iff, Prod.mk.injEq] at h
          obtain ⟨v', hf, rfl, rfl⟩ := h
          refine ⟨rfl, fun Q hQ cs hend => ?_, hκ.enter _ _ _ _ hc⟩
          refine ((hκ.run _ _ _ _ _ hc2 rfl) _ w vargs i2 r2) Q hQ cs fun G1 w1 fr e st i1 hfn he hl => ?_
          obtain ⟨q1, q2⟩ := fin_ok inv st
          refine hend _ w1 fr e q2 q1 hfn ?_ hl
          obtain ⟨u, rfl, ru⟩ := he
          exact ⟨u, rfl, freeze_rel i1 (fin_keeps inv st i1 fun b h1 h2 => by simp [h1] at h2) 12 _ _ _ hf ru⟩
        · cases h
      · simp only [hsc, cond_true, Option.some.injEq, Prod.mk.injEq] at h
        obtain ⟨rfl, rfl⟩ := h
        refine ⟨rfl, fun Q hQ cs hend => ?_, hκ.enter _ _ _ _ hc⟩
        refine ((hκ.run _ _ _ _ _ hc rfl) _ w vargs i0 r1) Q hQ cs fun G1 w1 fr e st i1 hfn he hl => ?_
        obtain ⟨q1, q2⟩ := fin_ok inv st
        refine hend _ w1 fr e q2 q1 hfn ?_ hl
        obtain ⟨u, rfl, ru⟩ := he
        exact ⟨u, rfl, scalar_rel _ _ hsc ru⟩
    · cases h

end
end Go.Sac
