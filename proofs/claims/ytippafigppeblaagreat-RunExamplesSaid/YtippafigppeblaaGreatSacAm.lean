/- Calls of the program out of the evaluator's answers; functions that are met by a contract; the row's end. -/
import Derived.Test.YtippafigppeblaaGreatSacAl
import Derived.Below
import Derived.ChangeSame
import Derived.Lib.Repeat
namespace Go.Sac
set_option linter.unusedVariables false
set_option linter.unusedSimpArgs false
open Go

theorem closed_runN {P : Program} {Q : Machine → Prop} (hQ : Closed P Q) : ∀ (n : Nat) (m m' : Machine), runN P n m = .next m' → Q m' → Q m
  | 0, m, m', h, q => by
    simp only [runN] at h
    cases h; exact q
  | n + 1, m, m', h, q => by
    simp only [runN] at h
    cases hs : step P m with
    | next m1 => rw [hs] at h; exact hQ _ _ hs (closed_runN hQ n m1 m' h q)
    | ended o w => rw [hs] at h; cases h

theorem closed_steps {P : Program} {Q : Machine → Prop} (hQ : Closed P Q) {m m' : Machine} (h : Steps P m m') (q : Q m') : Q m := by
  obtain ⟨n, h⟩ := h
  exact closed_runN hQ n m m' h q

/-- New blocks turn nothing. -/
theorem Inv.below {G : Gh} {S : St} {w w' : World} (h : Inv G S w) (b : RowKit.Below w.heap.size w w') : Inv G S w' ∧ Step G S w G S w' := by
  refine ⟨⟨fun o c e => ?_, h.dead, h.inj, h.beyond, fun c off v e => ?_, h.away, fun t g e => ?_, h.tipobj, h.tiptip, h.pan, fun o c x e f h1 h2 => ?_, fun c l => Nat.lt_of_lt_of_le (h.lentlt c l) b.size⟩,
    { Mono.refl G with un := fun _ _ h => ⟨h, rfl⟩, len := Nat.le_refl _, heap := fun c l _ => b.block c l, size := b.size, old := fun _ _ _ _ => rfl, own := fun _ _ h => h, os := b.os, tape := b.tape, output := b.output }⟩
  · obtain ⟨x, h1, h2⟩ := h.obj o c e
    exact ⟨x, h1, h2.congr (b.block c (h.lt e))⟩
  · rw [cell_congr (b.block c (h.mem_lt e))]; exact h.mem c off v e
  · obtain ⟨h1, h2⟩ := h.tip t g e
    obtain ⟨c, el, h3, h4⟩ := h2.row
    exact ⟨h1, ⟨⟨c, el, by rw [b.block g.b (h.tip_lt e)]; exact h3, h4⟩, h2.fin, h2.free, h2.lent⟩⟩
  · rw [b.block c (h.lt h1)] at h2; exact h.room o c x e f h1 h2

/-- A call that is met by a contract. -/
theorem callTo_of {P : Program} {f : FuncId} {vargs : Array Value} {G : Gh} {S : St} {w : World} {v : AV} {u : Value} (inv : Inv G S w) (ru : Rel G v u) (h : Calls P f vargs w fun e w' => e = .returned u ∧ RowKit.Below w.heap.size w w') : CallTo P f vargs G S w (.ret v) S := by
  intro Q hQ cs hend
  obtain ⟨e, w', fr, ⟨rfl, hb⟩, hc, hf, hl⟩ := h cs
  obtain ⟨i, st⟩ := inv.below hb
  exact closed_steps hQ hc (hend G w' fr _ st i hf ⟨u, rfl, ru⟩ hl)

theorem repeat_eq (l : List UInt8) : ∀ n, Lib.repeatL l n = (List.replicate n l).flatten
  | 0 => rfl
  | n + 1 => by simp [Lib.repeatL, List.replicate_succ, repeat_eq l n]

theorem repeat_ok {P : Program} {f : FuncId} (he : ∃ fn c, P.funcs[f]? = some fn ∧ fn.body = some c ∧ fn.name ≠ "runtime.NumGoroutine")
    (h : ∀ (s : ByteArray) (c : Nat) (w : World), c ≤ 9223372036854775807 → s.size * c ≤ 140737488355328 → Calls P f #[.string s, .int .i64 c] w fun e w' => e = .returned (.string ⟨(Lib.repeatL s.data.toList c).toArray⟩) ∧ RowKit.Below w.heap.size w w') : ForeignOk P f fRepeat where
  enter := he
  run args S ans S' hr hp G w vargs inv r := by
    unfold fRepeat at hr
    split at hr
    · rename_i S0 s n
      cases hc : (decide (0 ≤ n) && Nat.ble (s.length * n.toNat) 1048576 && Nat.ble n.toNat 1048576)
      · rw [hc] at hr; cases hr
      · simp only [hc, cond_true, Option.some.injEq, Prod.mk.injEq] at hr
        obtain ⟨rfl, rfl⟩ := hr
        simp only [Bool.and_eq_true, decide_eq_true_eq] at hc
        have h1 : s.length * n.toNat ≤ 1048576 := Nat.le_of_ble_eq_true hc.1.2
        have h2 : n.toNat ≤ 1048576 := Nat.le_of_ble_eq_true hc.2
        have hn : ((n.toNat : Nat) : Int) = n := Int.toNat_of_nonneg hc.1.1
        simp only [RelL] at r
        obtain ⟨v1, l1, e1, r1, v2, l2, rfl, r2, rfl⟩ := r
        simp only [Rel] at r1 r2
        subst r1 r2
        have hv : vargs = #[.string ⟨s.toArray⟩, .int .i64 n] := by apply Array.ext'; simpa using e1
        subst hv
        refine callTo_of (u := .string ⟨(Lib.repeatL s n.toNat).toArray⟩) inv ?_ ?_
        · rw [repeat_eq]; rfl
        · have := h ⟨s.toArray⟩ n.toNat w (by omega) (by show s.toArray.size * n.toNat ≤ _; simp; omega)
          rw [hn] at this
          simpa using this
    · cases hr

theorem bare_ok (w : World) : Inv (Gh.bare (fun _ _ => none) fun _ => false) St.none w := inv_bare (by intro b off v h; cases h) (by intro b h; cases h)

/-- What a call without arguments comes to. -/
theorem calls_of_run {C : Cfg} (hC : CfgOk C) {n : Nat} {f : FuncId} {v : AV} {S' : St} (h : (run C n).call f [] St.none = some (.ret v, S')) (w : World) :
    Calls C.P f #[] w fun e w' => (∃ G u, e = .returned u ∧ Rel G v u) ∧ RowKit.Below w.heap.size w w' := by
  intro cs
  let Q : Machine → Prop := fun m => ∃ e w' fr, ((∃ G u, e = .returned u ∧ Rel G v u) ∧ RowKit.Below w.heap.size w w') ∧ Comes C.P m (lone fr cs w') e ∧ fr.fn = f ∧ fr.leaving C.P w' e
  have hQ : Closed C.P Q := by
    rintro m m' hs ⟨e, w', fr, hr, hc, hf, hl⟩
    exact ⟨e, w', fr, hr, Comes.of_steps (Steps.one hs) hc, hf, hl⟩
  refine ((run_ok hC n).1.run f [] St.none (.ret v) S' h rfl _ w #[] (bare_ok w) rfl) Q hQ cs fun G' w' fr e st inv' hf he hl => ?_
  obtain ⟨u, rfl, ru⟩ := he
  refine ⟨_, w', fr, ⟨⟨G', u, rfl, ru⟩, ⟨st.os, st.tape, st.output, st.size, fun k hk => st.heap k hk ?_⟩⟩, Steps.refl _ _, hf, hl⟩
  rintro (⟨o, h⟩ | ⟨t, g, h, _⟩) <;> cases h

def isTrueR : R → Bool
  | some (.ret (.bool b), _) => b
  | _ => false

theorem calls_true {C : Cfg} (hC : CfgOk C) {n : Nat} {f : FuncId} (h : isTrueR ((run C n).call f [] St.none) = true) (w : World) :
    Calls C.P f #[] w fun e w' => e = .returned (.bool true) ∧ RowKit.Below w.heap.size w w' := by
  unfold isTrueR at h
  split at h
  · rename_i b S' hr
    subst h
    refine (calls_of_run hC hr w).mono ?_
    rintro e w' ⟨⟨G, u, rfl, ru⟩, hb⟩
    simp only [Rel] at ru
    subst ru
    exact ⟨rfl, hb⟩
  · cases h

end Go.Sac

namespace Go.ChangeShapes
open Go.WideShapes
section
variable {H : Type} {enc : TypeId × Value → H} {P : Program}

/-- 'post', where nothing below the old heap's end has turned. -/
theorem post_of_below {f : Func} {s : ChangeSpec} {apart fresh handsOn again : Bool} {W W' : World} {args : Array Value} {v : Value} {ds gs : List (DataW H)} {before pa pv : List MemPlace}
    (hW : DataW.Whole enc P f.params.toList s.vars apart W args.toList ds gs before)
    (hres : ∀ (b : Nat) (sp : Nat → Bool) (hd : Bool), DataW.TrodAll enc P W' b sp hd f.resultTypes.toList (v.resultList f.resultTypes.size) (s.fn H (ds ++ gs)).results [])
    (hargs : ∀ sp : Nat → Bool, (∀ p ∈ before, sp p.block = true) → DataW.TrodAll enc P W' 0 sp true f.params.toList args.toList (s.fn H (ds ++ gs)).args pa)
    (hvars : ∀ sp : Nat → Bool, (∀ p ∈ before, sp p.block = true) → DataW.TrodVars enc P W' sp s.vars (s.fn H (ds ++ gs)).vars pv)
    (hps : before = pa ++ pv) (hb : RowKit.Below W.heap.size W W')
    (hok : ∀ (j : Nat) (t : TypeId) (r : Value), f.resultTypes[j]? = some t → (v.resultList f.resultTypes.size)[j]? = some r → Value.okWide P W' .any 0 t r) :
    s.post enc P f apart fresh handsOn again W args v W' := by
  have hlt : ∀ p ∈ before, p.block < W.heap.size := fun p hp => hW.lt p hp
  have hold : ∀ p ∈ before, (fun b => decide (b < W.heap.size)) p.block = true := fun p hp => by simpa using hlt p hp
  refine ⟨ds, gs, before, [], pa, pv, hW, hres _ _ _, hargs _ hold, hvars _ hold, World.keptBut_mono (fun p hp => ⟨hp, ?_⟩) (hb.frame (· ∈ before)), fun _ => ?_⟩
  · rw [hps, List.mem_append] at hp
    exact Or.inr hp
  · obtain ⟨_, _, _, _, _, hz, hn⟩ := hW
    refine ⟨hok, _, _, ([] ++ pa) ++ pv, ⟨[] ++ pa, pv, trodAll_append (hargs _ (fun _ _ => rfl)) (hres _ _ _), hvars _ (fun _ _ => rfl), rfl, ?_, ?_⟩, ?_⟩
    · intro b off hp
      have hp' : MemPlace.cell b off ∈ before := by rw [hps]; simpa using hp
      have := hlt _ hp'
      rw [hb.frozen this]
      exact hz b off hp'
    · intro ha
      have := hn ha
      rw [hps] at this
      simpa using this
    · intro p hp _
      rw [hps]
      simpa using hp
end
end Go.ChangeShapes
