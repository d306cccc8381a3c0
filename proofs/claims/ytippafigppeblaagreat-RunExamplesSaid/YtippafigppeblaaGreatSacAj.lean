/- At a loop's head: objects that nothing names go. Where ways meet. -/
import Derived.Test.YtippafigppeblaaGreatSacAi
namespace Go.Sac
set_option linter.unusedVariables false
set_option linter.unusedSimpArgs false
open Go

def Gh.cut (G : Gh) (n : Nat) : Gh := { G with obj := fun o => if o < n then G.obj o else .un }

section
variable {G : Gh} {n : Nat}

theorem cut_lt {o : Nat} (h : o < n) : (G.cut n).obj o = G.obj o := by simp [Gh.cut, h]
theorem cut_ge {o : Nat} (h : n ≤ o) : (G.cut n).obj o = .un := by simp [Gh.cut, Nat.not_lt.2 h]
theorem cut_at {o b : Nat} (h : (G.cut n).obj o = .at b) : o < n ∧ G.obj o = .at b := by
  rcases Nat.lt_or_ge o n with q | q
  · rw [cut_lt q] at h; exact ⟨q, h⟩
  · rw [cut_ge q] at h; cases h
theorem cut_dead {o : Nat} (h : (G.cut n).obj o = .dead) : o < n ∧ G.obj o = .dead := by
  rcases Nat.lt_or_ge o n with q | q
  · rw [cut_lt q] at h; exact ⟨q, h⟩
  · rw [cut_ge q] at h; cases h

theorem refsLt_lst {st : Tip} {sz : Nat} {rows : List AV} : refsLt n (.lst st sz rows) = refsLtL n rows := by cases st <;> rfl

theorem TipOk.cutG {st : Tip} {a : Option Addr} {len cap sz : Nat} (h : TipOk G st a len cap sz) : TipOk (G.cut n) st a len cap sz := by
  cases st <;> exact h

mutual
theorem Rel.cut : ∀ (a : AV) (v : Value), refsLt n a = true → Rel G a v → Rel (G.cut n) a v
  | .bool b, v, _, k => by simpa [Rel] using k
  | .int _ _, v, _, k => by simpa [Rel] using k
  | .str s, v, _, k => by simpa [Rel] using k
  | .ptr o off, v, h, k => by
    have h : o < n := by simpa [refsLt] using h
    simp only [Rel, cut_lt h] at k ⊢; exact k
  | .nilptr, v, _, k => by simpa [Rel] using k
  | .eptr row off, v, h, k => by
    simp only [refsLt] at h
    simp only [Rel] at k ⊢
    obtain ⟨b, base, rfl, k⟩ := k
    exact ⟨b, base, rfl, CellsAt.cut row b base h k⟩
  | .lst st sz rows, v, h, k => by
    rw [refsLt_lst] at h
    simp only [Rel] at k ⊢
    obtain ⟨a, cap, rfl, l, t, k⟩ := k
    refine ⟨a, cap, rfl, l, t.cutG, ?_⟩
    rcases k with k | ⟨b, off, rfl, k, kl⟩
    · exact .inl k
    · exact .inr ⟨b, off, rfl, RowsAt.cut sz rows b off h k, kl⟩
  | .sl o off len cap _, v, h, k => by
    have h : o < n := by simpa [refsLt] using h
    simp only [Rel, cut_lt h] at k ⊢; exact k
  | .map o, v, h, k => by
    have h : o < n := by simpa [refsLt] using h
    simp only [Rel, cut_lt h] at k ⊢; exact k
  | .nilmap, v, _, k => by simpa [Rel] using k
  | .func f a c, v, h, k => by
    simp only [refsLt, Bool.and_eq_true] at h
    simp only [Rel] at k ⊢
    obtain ⟨a', c', rfl, ka, kc⟩ := k
    exact ⟨a', c', rfl, RelL.cut a _ h.1 ka, RelL.cut c _ h.2 kc⟩
  | .yld o, v, h, k => by
    have h : o < n := by simpa [refsLt] using h
    simp only [Rel, cut_lt h] at k ⊢; exact k
  | .nilfunc, v, _, k => by simpa [Rel] using k
  | .iface t x, v, h, k => by
    simp only [refsLt] at h
    simp only [Rel] at k ⊢
    obtain ⟨u, rfl, k⟩ := k
    exact ⟨u, rfl, Rel.cut x u h k⟩
  | .niliface, v, _, k => by simpa [Rel] using k
  | .agg cs, v, h, k => by
    simp only [refsLt] at h
    simp only [Rel] at k ⊢
    obtain ⟨vs, rfl, k⟩ := k
    exact ⟨vs, rfl, RelL.cut cs _ h k⟩
  | .tup cs, v, h, k => by
    simp only [refsLt] at h
    simp only [Rel] at k ⊢
    obtain ⟨vs, rfl, k⟩ := k
    exact ⟨vs, rfl, RelL.cut cs _ h k⟩
  | .junk, v, _, k => by simp [Rel]
theorem RelL.cut : ∀ (a : List AV) (v : List Value), refsLtL n a = true → RelL G a v → RelL (G.cut n) a v
  | [], v, _, k => by simpa [RelL] using k
  | a :: as, v, h, k => by
    simp only [refsLtL, Bool.and_eq_true] at h
    simp only [RelL] at k ⊢
    obtain ⟨x, xs, rfl, k, ks⟩ := k
    exact ⟨x, xs, rfl, Rel.cut a x h.1 k, RelL.cut as xs h.2 ks⟩
theorem CellsAt.cut : ∀ (a : List AV) (b off : Nat), refsLtL n a = true → CellsAt G a b off → CellsAt (G.cut n) a b off
  | [], b, off, _, k => by simp [CellsAt]
  | c :: cs, b, off, h, k => by
    simp only [refsLtL, Bool.and_eq_true] at h
    simp only [CellsAt] at k ⊢
    obtain ⟨⟨v, e, k, s⟩, ks⟩ := k
    exact ⟨⟨v, e, Rel.cut c v h.1 k, s⟩, CellsAt.cut cs b _ h.2 ks⟩
theorem RowsAt.cut (sz : Nat) : ∀ (a : List AV) (b off : Nat), refsLtL n a = true → RowsAt G sz a b off → RowsAt (G.cut n) sz a b off
  | [], b, off, _, k => by simp [RowsAt]
  | .agg cs :: rs, b, off, h, k => by
    simp only [refsLtL, refsLt, Bool.and_eq_true] at h
    simp only [RowsAt] at k ⊢
    exact ⟨k.1, CellsAt.cut cs b off h.1 k.2.1, RowsAt.cut sz rs b _ h.2 k.2.2⟩
  | .bool _ :: _, _, _, _, k | .int .. :: _, _, _, _, k | .str _ :: _, _, _, _, k | .ptr .. :: _, _, _, _, k | .nilptr :: _, _, _, _, k | .eptr .. :: _, _, _, _, k | .lst .. :: _, _, _, _, k
  | .sl .. :: _, _, _, _, k | .map _ :: _, _, _, _, k | .nilmap :: _, _, _, _, k | .func .. :: _, _, _, _, k | .yld _ :: _, _, _, _, k | .nilfunc :: _, _, _, _, k | .iface .. :: _, _, _, _, k
  | .niliface :: _, _, _, _, k | .tup _ :: _, _, _, _, k | .junk :: _, _, _, _, k => by simp [RowsAt] at k
end

mutual
theorem Rel.refs (hb : ∀ o, n ≤ o → G.obj o = .un) : ∀ (a : AV) (v : Value), Rel G a v → refsLt n a = true
  | .bool b, v, k => rfl
  | .int _ _, v, k => rfl
  | .str s, v, k => rfl
  | .ptr o off, v, k => by
    rcases Nat.lt_or_ge o n with q | q
    · simpa [refsLt] using q
    · simp only [Rel, hb o q] at k
  | .nilptr, v, k => rfl
  | .eptr row off, v, k => by
    simp only [Rel] at k
    obtain ⟨b, base, rfl, k⟩ := k
    exact CellsAt.refs hb row b base k
  | .lst st sz rows, v, k => by
    rw [refsLt_lst]
    simp only [Rel] at k
    obtain ⟨a, cap, rfl, l, t, k⟩ := k
    rcases k with k | ⟨b, off, rfl, k, kl⟩
    · rw [k.1]; rfl
    · exact RowsAt.refs hb sz rows b off k
  | .sl o off len cap _, v, k => by
    rcases Nat.lt_or_ge o n with q | q
    · simpa [refsLt] using q
    · simp only [Rel, hb o q] at k
  | .map o, v, k => by
    rcases Nat.lt_or_ge o n with q | q
    · simpa [refsLt] using q
    · simp only [Rel, hb o q] at k
  | .nilmap, v, k => rfl
  | .func f a c, v, k => by
    simp only [Rel] at k
    obtain ⟨a', c', rfl, ka, kc⟩ := k
    simp only [refsLt, Bool.and_eq_true]
    exact ⟨RelL.refs hb a _ ka, RelL.refs hb c _ kc⟩
  | .yld o, v, k => by
    rcases Nat.lt_or_ge o n with q | q
    · simpa [refsLt] using q
    · simp only [Rel, hb o q] at k
  | .nilfunc, v, k => rfl
  | .iface t x, v, k => by
    simp only [Rel] at k
    obtain ⟨u, rfl, k⟩ := k
    exact Rel.refs hb x u k
  | .niliface, v, k => rfl
  | .agg cs, v, k => by
    simp only [Rel] at k
    obtain ⟨vs, rfl, k⟩ := k
    exact RelL.refs hb cs _ k
  | .tup cs, v, k => by
    simp only [Rel] at k
    obtain ⟨vs, rfl, k⟩ := k
    exact RelL.refs hb cs _ k
  | .junk, v, k => rfl
theorem RelL.refs (hb : ∀ o, n ≤ o → G.obj o = .un) : ∀ (a : List AV) (v : List Value), RelL G a v → refsLtL n a = true
  | [], v, k => rfl
  | a :: as, v, k => by
    simp only [RelL] at k
    obtain ⟨x, xs, rfl, k, ks⟩ := k
    simp only [refsLtL, Bool.and_eq_true]
    exact ⟨Rel.refs hb a x k, RelL.refs hb as xs ks⟩
theorem CellsAt.refs (hb : ∀ o, n ≤ o → G.obj o = .un) : ∀ (a : List AV) (b off : Nat), CellsAt G a b off → refsLtL n a = true
  | [], b, off, k => rfl
  | c :: cs, b, off, k => by
    simp only [CellsAt] at k
    obtain ⟨⟨v, e, k, s⟩, ks⟩ := k
    simp only [refsLtL, Bool.and_eq_true]
    exact ⟨Rel.refs hb c v k, CellsAt.refs hb cs b _ ks⟩
theorem RowsAt.refs (hb : ∀ o, n ≤ o → G.obj o = .un) (sz : Nat) : ∀ (a : List AV) (b off : Nat), RowsAt G sz a b off → refsLtL n a = true
  | [], b, off, k => rfl
  | .agg cs :: rs, b, off, k => by
    simp only [RowsAt] at k
    simp only [refsLtL, refsLt, Bool.and_eq_true]
    exact ⟨CellsAt.refs hb cs b off k.2.1, RowsAt.refs hb sz rs b _ k.2.2⟩
  | .bool _ :: _, _, _, k | .int .. :: _, _, _, k | .str _ :: _, _, _, k | .ptr .. :: _, _, _, k | .nilptr :: _, _, _, k | .eptr .. :: _, _, _, k | .lst .. :: _, _, _, k
  | .sl .. :: _, _, _, k | .map _ :: _, _, _, k | .nilmap :: _, _, _, k | .func .. :: _, _, _, k | .yld _ :: _, _, _, k | .nilfunc :: _, _, _, k | .iface .. :: _, _, _, k
  | .niliface :: _, _, _, k | .tup _ :: _, _, _, k | .junk :: _, _, _, k => by simp [RowsAt] at k
end

theorem RelE.cut : ∀ {es : List (AV × AV × Nat)} {l : List MapEntry}, (es.all fun e => refsLt n e.1 && refsLt n e.2.1) = true → RelE G es l → RelE (G.cut n) es l
  | [], _, _, k => k
  | e :: es, _, h, k => by
    simp only [List.all_cons, Bool.and_eq_true] at h
    obtain ⟨m, ms, rfl, k1, k2, k3, k4⟩ := k
    exact ⟨m, ms, rfl, Rel.cut _ _ h.1.1 k1, Rel.cut _ _ h.1.2 k2, k3, RelE.cut h.2 k4⟩

theorem ObjAt.cut {w : World} {x : AObj} {b : Nat} (h : objLt n x = true) (k : ObjAt G w x b) : ObjAt (G.cut n) w x b := by
  cases x with
  | cells cs =>
    obtain ⟨vs, rest, e, h1, h2, h3⟩ := k
    exact ⟨vs, rest, e, h1, RelL.cut cs vs h h2, h3⟩
  | map es c =>
    obtain ⟨ms, h1, h2⟩ := k
    exact ⟨ms, h1, RelE.cut h h2⟩
  | loop l => cases h
  | dfr t => exact k
  | iter m since seen last =>
    obtain ⟨mb, q, r⟩ := k
    refine ⟨mb, q, ?_⟩
    rcases r with r | ⟨o, c, r1, r2, r3⟩
    · exact .inl r
    · refine .inr ⟨o, c, r1, r2, ?_⟩
      subst r1
      have ho : o < n := by simpa [objLt] using h
      rw [cut_lt ho]; exact r3
  | dead => exact k

theorem RelD.cut : ∀ {ds : List ADef} {l : List Deferred}, refsLtD n ds = true → RelD G ds l → RelD (G.cut n) ds l
  | [], _, _, k => k
  | .mark o :: ds, _, h, k => by
    simp only [refsLtD, Bool.and_eq_true] at h
    obtain ⟨r, rest, rfl, q, k⟩ := k
    have ho : o < n := by simpa using h.1
    exact ⟨r, rest, rfl, by rw [cut_lt ho]; exact q, RelD.cut h.2 k⟩
  | .call f args :: ds, _, h, k => by
    simp only [refsLtD, Bool.and_eq_true] at h
    obtain ⟨i, a, c, va, vc, vargs, rest, rfl, rfl, q1, q2, q3, k⟩ := k
    obtain ⟨⟨h1, h2⟩, h3⟩ := h
    simp only [refsLt, Bool.and_eq_true] at h1
    exact ⟨i, a, c, va, vc, vargs, rest, rfl, rfl, RelL.cut _ _ h1.1 q1, RelL.cut _ _ h1.2 q2, RelL.cut _ _ h2 q3, RelD.cut h3 k⟩

theorem refsLtL_mem : ∀ {l : List AV} {v : AV}, refsLtL n l = true → v ∈ l → refsLt n v = true
  | x :: xs, v, h, m => by
    simp only [refsLtL, Bool.and_eq_true] at h
    rcases List.mem_cons.1 m with rfl | m
    · exact h.1
    · exact refsLtL_mem h.2 m
end

theorem gcHead_pan (gc : Bool) (n : Nat) (d : List ADef) (vals : List AV) (S : St) : (gcHead gc n d vals S).pan = S.pan := by
  unfold gcHead
  generalize (gc && refsLtL n vals && refsLtD n d && (S.objs.take n).all (objLt n) && _) = c
  cases c <;> rfl

theorem gc_ok {G0 G : Gh} {S0 S : St} {w0 w : World} (h0 : Inv G0 S0 w0) (st : Step G0 S0 w0 G S w) (inv : Inv G S w) (gc : Bool) (d : List ADef) (vals : List AV) :
    ∃ G', Step G0 S0 w0 G' (gcHead gc S0.objs.length d vals S) w ∧ Inv G' (gcHead gc S0.objs.length d vals S) w ∧
      (∀ v ∈ vals, ∀ u, Rel G v u → Rel G' v u) ∧ (∀ l, RelD G d l → RelD G' d l) ∧ (∀ v r, S.pan = some (v, r) → ∀ u, Rel G v u → Rel G' v u) ∧ (∀ v u0 u, Rel G0 v u0 → Rel G v u → Rel G' v u) := by
  unfold gcHead
  generalize hc : (gc && refsLtL S0.objs.length vals && refsLtD S0.objs.length d && (S.objs.take S0.objs.length).all (objLt S0.objs.length) && (match S.pan with | none => true | some (v, _) => refsLt S0.objs.length v)) = c
  cases c
  · exact ⟨G, st, inv, fun _ _ _ k => k, fun _ k => k, fun _ _ _ _ k => k, fun _ _ _ _ k => k⟩
  · simp only [Bool.and_eq_true] at hc
    obtain ⟨⟨⟨⟨_, hv⟩, hd⟩, ho⟩, hp⟩ := hc
    have hlen := st.len
    have htl : (S.objs.take S0.objs.length).length = S0.objs.length := by rw [List.length_take]; omega
    have get : ∀ o, o < S0.objs.length → (S.objs.take S0.objs.length)[o]? = S.objs[o]? := fun o q => by rw [List.getElem?_take, if_pos q]
    have pn : ∀ v r, S.pan = some (v, r) → ∀ u, Rel G v u → Rel (G.cut S0.objs.length) v u := fun v r e u k => by
      rw [e] at hp; exact Rel.cut _ _ hp k
    refine ⟨G.cut S0.objs.length, ?_, ?_, fun v m u k => Rel.cut _ _ (refsLtL_mem hv m) k, fun l k => RelD.cut hd k, pn, fun v u0 u k0 k => Rel.cut _ _ (Rel.refs (fun o q => h0.beyond o q) v u0 k0) k⟩
    · have lt : ∀ o b, G0.obj o = .at b → o < S0.objs.length := fun o b e => by
        rcases Nat.lt_or_ge o S0.objs.length with q | q
        · exact q
        · rw [h0.beyond o q] at e; cases e
      have ltd : ∀ o, G0.obj o = .dead → o < S0.objs.length := fun o e => by
        rcases Nat.lt_or_ge o S0.objs.length with q | q
        · exact q
        · rw [h0.beyond o q] at e; cases e
      exact {
        obj := fun o b e => by rw [cut_lt (lt o b e)]; exact st.obj o b e
        dead := fun o e => by rw [cut_lt (ltd o e)]; exact st.dead o e
        tip := st.tip
        mem := st.mem
        room := st.room
        room' := st.room'
        lent := st.lent
        un := fun o q e => by
          obtain ⟨p1, p2⟩ := st.un o q e
          exact ⟨by rw [cut_lt q]; exact p1, by rw [← p2]; exact get o q⟩
        len := Nat.le_of_eq htl.symm
        heap := st.heap
        size := st.size
        old := st.old
        own := fun b q hb => st.own b q (by
          rcases hb with ⟨o, e⟩ | hb
          · exact .inl ⟨o, (cut_at e).2⟩
          · exact .inr hb)
        os := st.os
        tape := st.tape
        output := st.output }
    · exact {
        obj := fun o b e => by
          obtain ⟨q, e'⟩ := cut_at e
          obtain ⟨x, h1, h2⟩ := inv.obj o b e'
          refine ⟨x, by show (S.objs.take S0.objs.length)[o]? = _; rw [get o q]; exact h1, ObjAt.cut ?_ h2⟩
          refine List.all_eq_true.1 ho x (List.mem_of_getElem? (i := o) ?_)
          rw [get o q]; exact h1
        dead := fun o e => by
          obtain ⟨q, e'⟩ := cut_dead e
          show (S.objs.take S0.objs.length)[o]? = _
          rw [get o q]; exact inv.dead o e'
        inj := fun o o' b e e' => inv.inj o o' b (cut_at e).2 (cut_at e').2
        beyond := fun o q => cut_ge (by have : (S.objs.take S0.objs.length).length ≤ o := q; omega)
        mem := inv.mem
        away := fun o b e off => inv.away o b (cut_at e).2 off
        tip := fun t g e => ⟨(inv.tip t g e).1, ⟨(inv.tip t g e).2.row, (inv.tip t g e).2.fin, (inv.tip t g e).2.free, (inv.tip t g e).2.lent⟩⟩
        tipobj := fun t g o e e' => inv.tipobj t g o e (cut_at e').2
        tiptip := inv.tiptip
        pan := fun v r e => by
          obtain ⟨u, k⟩ := inv.pan v r e
          exact ⟨u, pn v r e u k⟩
        room := fun o b c e f h1 h2 => inv.room o b c e f (cut_at h1).2 h2
        lentlt := inv.lentlt }

/- Where ways meet -/

def joinEnv (e : Env) (car wr : List Nat) (f : Nat → AV) (d : List ADef) : Env := { mkEnv e car wr (car.map f) with d := d }

theorem idxOf_some {i : Nat} : ∀ {l : List Nat} {n m : Nat}, idxOf i l n = some m → n ≤ m ∧ l[m - n]? = some i
  | [], n, m, h => by cases h
  | x :: xs, n, m, h => by
    simp only [idxOf] at h
    cases hb : Nat.beq x i
    · simp only [hb, cond_false] at h
      obtain ⟨h1, h2⟩ := idxOf_some h
      refine ⟨by omega, ?_⟩
      have : m - n = (m - (n + 1)) + 1 := by omega
      rw [this]; simpa using h2
    · simp only [hb, cond_true, Option.some.injEq] at h
      subst h
      have : x = i := by simpa using hb
      subst this
      simp

theorem idxOf_none {i : Nat} : ∀ {l : List Nat} {n : Nat}, idxOf i l n = none → i ∉ l
  | [], n, h => by simp
  | x :: xs, n, h => by
    simp only [idxOf] at h
    cases hb : Nat.beq x i
    · simp only [hb, cond_false] at h
      have := idxOf_none h
      have hne : x ≠ i := by
        rintro rfl
        simp at hb
      simp [this, Ne.symm hne]
    · simp only [hb, cond_true] at h; cases h

theorem joinEnv_car {e : Env} {car wr : List Nat} {f : Nat → AV} {d : List ADef} {i : Nat} (h : i ∈ car) : (joinEnv e car wr f d).t i = f i := by
  unfold joinEnv mkEnv
  simp only
  cases hi : idxOf i car 0 with
  | none => exact (idxOf_none hi h).elim
  | some m =>
    obtain ⟨_, h2⟩ := idxOf_some hi
    simp only [Nat.sub_zero] at h2
    simp only [List.getD_eq_getElem?_getD, List.getElem?_map, h2, Option.map_some, Option.getD_some]

theorem joinEnv_else {e : Env} {car wr : List Nat} {f : Nat → AV} {d : List ADef} {i : Nat} (h : i ∉ car) : (joinEnv e car wr f d).t i = if i ∈ wr then .junk else e.t i := by
  unfold joinEnv mkEnv
  simp only
  cases hi : idxOf i car 0 with
  | some m =>
    obtain ⟨_, h2⟩ := idxOf_some hi
    exact (h (List.mem_of_getElem? h2)).elim
  | none =>
    simp only
    cases hm : memN i wr
    · have : i ∉ wr := fun q => by rw [mem_memN q] at hm; cases hm
      simp [this]
    · simp [memN_mem hm]

theorem From.join {n : Nat} {up : Up} {wr : List Nat} {G : Gh} {S : St} {w : World} {e : Env} {G' : Gh} {S' : St} {w' : World} {e' : Env} {a' : Act} (car : List Nat) (f : From n up (· ∈ wr) G S w e G' S' w' e' a') :
    From n up (· ∈ wr) G S w e G' S' w' (joinEnv e car wr e'.t e'.d) a' := by
  refine ⟨f.step, ⟨f.pt.inv, fun i => ?_, f.pt.size, f.pt.defs, f.pt.pan, f.pt.shape⟩, fun i hi => ?_⟩
  · by_cases h : i ∈ car
    · rw [joinEnv_car h]; exact f.pt.tmps i
    · rw [joinEnv_else h]
      split
      · trivial
      · rename_i hw
        rw [← f.agree i hw]; exact f.pt.tmps i
  · by_cases h : i ∈ car
    · rw [joinEnv_car h]; exact f.agree i hi
    · rw [joinEnv_else h, if_neg hi]

theorem From.gc {n : Nat} {up : Up} {wr : List Nat} {G : Gh} {S : St} {w : World} {e : Env} {a : Act} {G' : Gh} {S' : St} {w' : World} {f : Nat → AV} {d : List ADef} {a' : Act} {car : List Nat} (gc : Bool) (p : Pt n up G S w e a) (h : From n up (· ∈ wr) G S w e G' S' w' (joinEnv e car wr f d) a') :
    ∃ G2, From n up (· ∈ wr) G S w e G2 (gcHead gc S.objs.length d (car.map f) S') w' (joinEnv e car wr f d) a' := by
  obtain ⟨G2, h1, h2, h3, h4, h5, h6⟩ := gc_ok p.inv h.step h.pt.inv gc d (car.map f)
  refine ⟨G2, h1, ⟨h2, fun i => ?_, h.pt.size, h4 _ h.pt.defs, fun v r q => ?_, by rw [gcHead_pan]; exact h.pt.shape⟩, h.agree⟩
  · have hr := h.pt.tmps i
    by_cases hc : i ∈ car
    · rw [joinEnv_car hc] at hr ⊢
      exact h3 _ (List.mem_map.2 ⟨i, hc, rfl⟩) _ hr
    · rw [joinEnv_else hc] at hr ⊢
      split
      · trivial
      · rename_i hw
        rw [if_neg hw] at hr
        exact h6 _ _ _ (p.tmps i) hr
  · rw [gcHead_pan] at q
    exact h5 v r q _ (h.pt.pan v r q)

end Go.Sac
