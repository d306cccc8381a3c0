/- What goes ahead of what in a region; orders. -/
import Derived.Test.YtippafigppeblaaGreatSacAe
namespace Go.Sac
set_option linter.unusedVariables false
set_option linter.unusedSimpArgs false
open Go

section
variable {all : Array Oper}

def befF (acc : Array Nat) (s : Nat) (e : Edge) : Nat := if Region.binds .any e then s ||| 2 ^ e.on ||| acc.getD e.on 0 else s

theorem befF_bit {acc : Array Nat} {j : Nat} : ∀ (l : List Edge) (s : Nat), (l.foldl (befF acc) s).testBit j = true ↔ s.testBit j = true ∨ ∃ e ∈ l, Region.binds .any e = true ∧ (e.on = j ∨ (acc.getD e.on 0).testBit j = true)
  | [], s => by simp
  | e :: l, s => by
    rw [List.foldl_cons, befF_bit l]
    unfold befF
    cases hb : Region.binds .any e
    · simp [hb]
    · simp only [if_true, Nat.testBit_or, Nat.testBit_two_pow, Bool.or_eq_true, decide_eq_true_eq, List.mem_cons, exists_eq_or_imp, hb, true_and]
      constructor
      · rintro (((h | h) | h) | h)
        · exact .inl h
        · exact .inr (.inl (.inl h))
        · exact .inr (.inl (.inr h))
        · exact .inr (.inr h)
      · rintro (h | (h | h) | h)
        · exact .inl (.inl (.inl h))
        · exact .inl (.inl (.inr h))
        · exact .inl (.inr h)
        · exact .inr h

/-- What holds of a beginning of 'before'. -/
structure BefOk (all : Array Oper) (acc : Array Nat) : Prop where
  bit : ∀ i, i < acc.size → ∀ o, all[i]? = some o → ∀ j, (acc.getD i 0).testBit j = true ↔ ∃ e ∈ o.after.toList, Region.binds .any e = true ∧ (e.on = j ∨ (e.on < i ∧ (acc.getD e.on 0).testBit j = true))

theorem getD_push {acc : Array Nat} {x i : Nat} (h : i < acc.size) : (acc.push x).getD i 0 = acc.getD i 0 := by
  simp [Array.getD_eq_getD_getElem?, Array.getElem?_push, Nat.ne_of_lt h]

theorem befOk_push {acc : Array Nat} (h : BefOk all acc) {o : Oper} (ho : all[acc.size]? = some o) : BefOk all (acc.push (o.after.toList.foldl (befF acc) 0)) := by
  refine ⟨fun i hi o' ho' j => ?_⟩
  rw [Array.size_push] at hi
  by_cases q : i < acc.size
  · rw [getD_push q, h.bit i q o' ho' j]
    constructor
    · rintro ⟨e, he, hb, hj⟩
      exact ⟨e, he, hb, hj.imp id fun k => ⟨k.1, by rw [getD_push (by omega)]; exact k.2⟩⟩
    · rintro ⟨e, he, hb, hj⟩
      exact ⟨e, he, hb, hj.imp id fun k => ⟨k.1, by rw [getD_push (by omega)] at k; exact k.2⟩⟩
  · have : i = acc.size := by omega
    subst this
    rw [ho] at ho'; cases ho'
    have : (acc.push (o.after.toList.foldl (befF acc) 0)).getD acc.size 0 = o.after.toList.foldl (befF acc) 0 := by simp [Array.getD_eq_getD_getElem?]
    rw [this, befF_bit]
    simp only [Nat.zero_testBit, Bool.false_eq_true, false_or]
    constructor
    · rintro ⟨e, he, hb, hj⟩
      refine ⟨e, he, hb, hj.imp id fun k => ?_⟩
      have hlt : e.on < acc.size := by
        by_cases hl : e.on < acc.size
        · exact hl
        · rw [Array.getD_eq_getD_getElem?, Array.getElem?_eq_none (by omega)] at k; simp at k
      exact ⟨hlt, by rw [getD_push hlt]; exact k⟩
    · rintro ⟨e, he, hb, hj⟩
      exact ⟨e, he, hb, hj.imp id fun k => by rw [getD_push k.1] at k; exact k.2⟩

def befStep (acc : Array Nat) (o : Oper) : Array Nat := acc.push (o.after.toList.foldl (befF acc) 0)

theorem before_eq (all : Array Oper) : Region.before all = all.toList.foldl befStep #[] := by
  unfold Region.before
  rw [← Array.foldl_toList]
  congr 1
  funext acc o
  unfold befStep
  rw [← Array.foldl_toList]
  rfl

theorem befOk_fold : ∀ (l : List Oper) (acc : Array Nat), all.toList.drop acc.size = l → BefOk all acc → BefOk all (l.foldl befStep acc) ∧ (l.foldl befStep acc).size = acc.size + l.length
  | [], acc, _, h => ⟨h, by simp⟩
  | o :: l, acc, hl, h => by
    have ho : all[acc.size]? = some o := by
      have := congrArg (fun z => z[0]?) hl
      simpa using this
    have hl' : all.toList.drop (befStep acc o).size = l := by
      have := congrArg List.tail hl
      simpa [befStep] using this
    obtain ⟨h1, h2⟩ := befOk_fold l (befStep acc o) hl' (befOk_push h ho)
    exact ⟨h1, by rw [List.foldl_cons, h2]; simp [befStep]; omega⟩

theorem before_ok (all : Array Oper) : BefOk all (Region.before all) ∧ (Region.before all).size = all.size := by
  rw [before_eq]
  obtain ⟨h1, h2⟩ := befOk_fold (all := all) all.toList #[] (by simp) ⟨fun i hi => by simp at hi⟩
  exact ⟨h1, by rw [h2]; simp⟩

/- Which are listed -/

def Closed' (all : Array Oper) (listed : Array Bool) : Prop := ∀ i o, all[i]? = some o → listed.getD i false = true → ∀ e ∈ o.after.toList, Region.binds .any e = true → listed.getD e.on false = true

theorem get_lt {i : Nat} {o : Oper} (h : all[i]? = some o) : i < all.size := (Array.getElem?_eq_some_iff.1 h).1

theorem closed_bit {listed : Array Bool} (hc : Closed' all listed) : ∀ (i : Nat) (o : Oper), all[i]? = some o → (∀ e ∈ o.after.toList, Region.binds .any e = true → listed.getD e.on false = true) → ∀ j, ((Region.before all).getD i 0).testBit j = true → listed.getD j false = true := by
  intro i
  induction i using Nat.strongRecOn with
  | _ i ih =>
    intro o ho he j hj
    obtain ⟨hb, hs⟩ := before_ok all
    have hi : i < (Region.before all).size := by rw [hs]; exact get_lt ho
    obtain ⟨e, hm, hbd, q⟩ := (hb.bit i hi o ho j).1 hj
    rcases q with q | ⟨q, k⟩
    · subst q; exact he e hm hbd
    · have hlt : e.on < all.size := Nat.lt_trans q (get_lt ho)
      exact ih e.on q all[e.on] (Array.getElem?_eq_getElem hlt) (fun e' h' hb' => hc e.on _ (Array.getElem?_eq_getElem hlt) (he e hm hbd) e' h' hb') j k

theorem ready_spec {listed : Array Bool} (hs : listed.size = all.size) {i : Nat} (h : i ∈ Region.ready .any all listed) : ∃ o, all[i]? = some o ∧ listed.getD i false = false ∧ ∀ e ∈ o.after.toList, Region.binds .any e = true → listed.getD e.on false = true := by
  unfold Region.ready at h
  simp only [List.mem_filter, List.mem_range, Bool.and_eq_true, Bool.not_eq_true'] at h
  obtain ⟨hlt, h1, h2⟩ := h
  rw [Array.getElem?_eq_getElem hlt] at h2
  simp only [Option.map_some, Option.getD_some, Array.all_eq_true'] at h2
  refine ⟨all[i], Array.getElem?_eq_getElem hlt, ?_, fun e he hb => ?_⟩
  · rw [Array.getD_eq_getD_getElem?, Array.getElem?_eq_getElem (by omega)] at h1 ⊢
    simpa using h1
  · have := h2 e (by simpa using he)
    simpa [hb] using this

theorem all_listed {listed : Array Bool} (hs : listed.size = all.size) (hb : ∀ i o, all[i]? = some o → (Region.before all).getD i 0 < 2 ^ i) (h : Region.ready .any all listed = []) : ∀ i, i < all.size → listed.getD i false = true := by
  intro i
  induction i using Nat.strongRecOn with
  | _ i ih =>
    intro hi
    cases hl : listed.getD i false with
    | true => rfl
    | false =>
      have : i ∈ Region.ready .any all listed := by
        unfold Region.ready
        simp only [List.mem_filter, List.mem_range, Bool.and_eq_true, Bool.not_eq_true']
        refine ⟨hi, ?_, ?_⟩
        · rw [Array.getD_eq_getD_getElem?, Array.getElem?_eq_getElem (by omega)] at hl ⊢
          simpa using hl
        · rw [Array.getElem?_eq_getElem hi]
          simp only [Option.map_some, Option.getD_some, Array.all_eq_true']
          intro e he
          cases hbd : Region.binds .any e with
          | false => rfl
          | true =>
            simp only [Bool.not_true, Bool.false_or]
            obtain ⟨ho, hz⟩ := before_ok all
            have hbit := (ho.bit i (by rw [hz]; exact hi) all[i] (Array.getElem?_eq_getElem hi) e.on).2 ⟨e, by simpa using he, hbd, .inl rfl⟩
            have hlt : e.on < i := by
              have h1 := hb i _ (Array.getElem?_eq_getElem hi)
              have h2 := Nat.ge_two_pow_of_testBit hbit
              exact (Nat.pow_lt_pow_iff_right (by omega)).1 (Nat.lt_of_le_of_lt h2 h1)
            exact ih e.on hlt (by omega)
      rw [h] at this; cases this

def cnt (l : Array Bool) : Nat → Nat
  | 0 => 0
  | n + 1 => cnt l n + (if l.getD n false then 0 else 1)

theorem cnt_le (l : Array Bool) : ∀ n, cnt l n ≤ n
  | 0 => Nat.le_refl _
  | n + 1 => by simp only [cnt]; have := cnt_le l n; split <;> omega

theorem getD_set_ne {l : Array Bool} {i j : Nat} (h : j ≠ i) : (l.setIfInBounds i true).getD j false = l.getD j false := by
  simp [Array.getD_eq_getD_getElem?, Array.getElem?_setIfInBounds, Ne.symm h]

theorem getD_set_eq {l : Array Bool} {i : Nat} (h : i < l.size) : (l.setIfInBounds i true).getD i false = true := by
  simp [Array.getD_eq_getD_getElem?, h]

theorem cnt_set_ge {l : Array Bool} {i : Nat} : ∀ n, n ≤ i → cnt (l.setIfInBounds i true) n = cnt l n
  | 0, _ => rfl
  | n + 1, h => by simp only [cnt]; rw [cnt_set_ge n (by omega), getD_set_ne (by omega)]

theorem cnt_set {l : Array Bool} {i : Nat} (hl : i < l.size) (h : l.getD i false = false) : ∀ n, i < n → cnt (l.setIfInBounds i true) n + 1 = cnt l n
  | 0, q => by omega
  | n + 1, q => by
    simp only [cnt]
    by_cases e : n = i
    · subst e
      rw [cnt_set_ge n (Nat.le_refl _), getD_set_eq hl, h]; simp
    · rw [getD_set_ne e]
      have := cnt_set hl h n (by omega)
      omega

theorem cnt_zero {l : Array Bool} : ∀ n, cnt l n = 0 → ∀ i, i < n → l.getD i false = true
  | 0, _, i, q => by omega
  | n + 1, h, i, q => by
    simp only [cnt] at h
    by_cases e : i = n
    · subst e
      cases hl : l.getD i false
      · rw [hl] at h; simp at h
      · rfl
    · exact cnt_zero n (by omega) i (by omega)

/- What the checks say -/

theorem idxOfN_mem {d : Nat} : ∀ {l : List Nat}, d ∈ l → idxOfN d l = true
  | x :: xs, h => by
    simp only [idxOfN, Bool.or_eq_true]
    rcases List.mem_cons.1 h with rfl | h
    · exact .inl (by simp)
    · exact .inr (idxOfN_mem h)

theorem distinct_uniq : ∀ {l : List Oper} {i j : Nat} {o p : Oper} {d : Nat}, distinct (dsts l) = true → l[i]? = some o → l[j]? = some p → o.dst = some d → p.dst = some d → i = j
  | [], i, j, _, _, _, _, h, _, _, _ => by simp at h
  | x :: xs, i, j, o, p, d, hd, hi, hj, ho, hp => by
    have htail : distinct (dsts xs) = true := by
      unfold dsts at hd ⊢
      cases hx : x.dst with
      | none => rwa [List.filterMap_cons_none hx] at hd
      | some c =>
        rw [List.filterMap_cons_some hx] at hd
        simp only [distinct, Bool.and_eq_true] at hd
        exact hd.2
    have hno : x.dst = some d → ∀ (m : Nat) (q : Oper), xs[m]? = some q → q.dst = some d → False := by
      intro hx m q hm hq
      unfold dsts at hd
      rw [List.filterMap_cons_some hx] at hd
      simp only [distinct, Bool.and_eq_true, Bool.not_eq_true'] at hd
      have : d ∈ xs.filterMap (·.dst) := List.mem_filterMap.2 ⟨q, List.mem_of_getElem? hm, hq⟩
      rw [idxOfN_mem this] at hd
      cases hd.1
    cases i with
    | zero =>
      cases j with
      | zero => rfl
      | succ j =>
        simp at hi; subst hi
        exact (hno ho j p (by simpa using hj) hp).elim
    | succ i =>
      cases j with
      | zero =>
        simp at hj; subst hj
        exact (hno hp i o (by simpa using hi) ho).elim
      | succ j =>
        exact congrArg Nat.succ (distinct_uniq (i := i) (j := j) htail (by simpa using hi) (by simpa using hj) ho hp)

theorem zip_all {f : Oper × Nat → Bool} (h : all.toList.zipIdx.all f = true) {i : Nat} {o : Oper} (ho : all[i]? = some o) : f (o, i) = true := by
  rw [List.all_eq_true] at h
  refine h (o, i) ?_
  rw [List.mem_zipIdx_iff_getElem?]
  simpa using ho

structure SlotsOk (all : Array Oper) : Prop where
  uniq : ∀ (i j : Nat) (o p : Oper) (d : Nat), all[i]? = some o → all[j]? = some p → o.dst = some d → p.dst = some d → i = j
  bound : ∀ (i : Nat) (o : Oper), all[i]? = some o → (Region.before all).getD i 0 < 2 ^ i
  uses : ∀ (i : Nat) (o : Oper) (t j : Nat) (p : Oper), all[i]? = some o → t ∈ usesOf all o → all[j]? = some p → p.dst = some t → ((Region.before all).getD i 0).testBit j = true ∨ (hoisted p = false ∧ ((Region.before all).getD j 0).testBit i = true)

theorem slotsOk_spec (h : slotsOk all (Region.before all) = true) : SlotsOk all := by
  unfold slotsOk at h
  simp only [Bool.and_eq_true] at h
  obtain ⟨h1, h2⟩ := h
  refine ⟨fun i j o p d hi hj ho hp => distinct_uniq h1 (by simpa using hi) (by simpa using hj) ho hp, fun i o ho => ?_, fun i o t j p hi ht hj hp => ?_⟩
  · have := zip_all h2 ho
    simp only [Bool.and_eq_true] at this
    have := this.1
    have : (Region.before all).getD i 0 + 1 ≤ 2 ^ i := by simpa using this
    omega
  · have := zip_all h2 hi
    simp only [Bool.and_eq_true] at this
    have := zip_all (List.all_eq_true.1 this.2 t ht) hj
    simp only [hp, Bool.or_eq_true, Bool.and_eq_true, Bool.not_eq_true'] at this
    rcases this with (q | q) | q
    · simp at q
    · exact .inl q
    · exact .inr q

theorem bit_lt (s : SlotsOk all) {i j : Nat} {o : Oper} (ho : all[i]? = some o) (h : ((Region.before all).getD i 0).testBit j = true) : j < i := by
  have h1 := s.bound i o ho
  have h2 := Nat.ge_two_pow_of_testBit h
  exact (Nat.pow_lt_pow_iff_right (by omega)).1 (Nat.lt_of_le_of_lt h2 h1)

def anch (X : Ctx) (o : Oper) : Bool := !hoisted o && !movable X o

theorem anchoredOk_spec {X : Ctx} (h : anchoredOk X all.toList (Region.before all) = true) {i j : Nat} {o p : Oper} (hj : all[j]? = some o) (hi : all[i]? = some p) (hij : i < j) (ho : anch X o = true) (hp : anch X p = true) :
    ((Region.before all).getD j 0).testBit i = true := by
  unfold anchoredOk at h
  have := zip_all h hj
  simp only [anch, Bool.and_eq_true, Bool.not_eq_true'] at ho hp
  simp only [ho.1, ho.2, Bool.false_or] at this
  rw [List.all_eq_true] at this
  have := this (p, i) (by
    rw [List.mem_zipIdx_iff_getElem?]
    simp only [List.getElem?_take, hij, if_true]
    simpa using hi)
  simpa [hp.1, hp.2] using this

end
end Go.Sac
