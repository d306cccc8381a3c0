/- A region that draws its order: one operation, and all. -/
import Derived.Test.YtippafigppeblaaGreatSacAh
namespace Go.Sac
set_option linter.unusedVariables false
set_option linter.unusedSimpArgs false
open Go

section
variable {X : Ctx} {all : Array Oper} {r : Ans × St} {e0 : Env} {S0 : St} {e1 : Env} {S1 : St} {ho : Nat → Nat} {en : Nat → Env} {st : Nat → St} {sE : Seen} {pj : Option Nat}
variable {b : Frame} {cs : Callers} {up : Up} {n : Nat} {Q : Machine → Prop} {kk : List Item} {G0 : Gh} {w0 : World}

def panEnv (all : Array Oper) (e0 : Env) (d : List ADef) : Env := { mkEnv e0 [] (dsts all.toList) [] with d := d }

theorem memN_mem {i : Nat} : ∀ {l : List Nat}, memN i l = true → i ∈ l
  | x :: xs, h => by
    simp only [memN, Bool.or_eq_true] at h
    rcases h with h | h
    · have : x = i := by simpa using h
      subst this; exact List.mem_cons_self ..
    · exact List.mem_cons_of_mem _ (memN_mem h)

theorem mem_memN {i : Nat} : ∀ {l : List Nat}, i ∈ l → memN i l = true
  | x :: xs, h => by
    simp only [memN, Bool.or_eq_true]
    rcases List.mem_cons.1 h with rfl | h
    · exact .inl (by simp)
    · exact .inr (mem_memN h)

theorem panEnv_t (all : Array Oper) (e0 : Env) (d : List ADef) (s : Nat) : (panEnv all e0 d).t s = if memN s (dsts all.toList) then .junk else e0.t s := by
  unfold panEnv mkEnv
  simp only [idxOf]
  cases memN s (dsts all.toList) <;> rfl

theorem dsts_mem {s : Nat} : s ∈ dsts all.toList ↔ ∃ (j : Nat) (o : Oper), all[j]? = some o ∧ o.dst = some s := by
  unfold dsts
  rw [List.mem_filterMap]
  constructor
  · rintro ⟨o, h1, h2⟩
    obtain ⟨j, h⟩ := List.getElem?_of_mem h1
    exact ⟨j, o, by simpa using h, h2⟩
  · rintro ⟨j, o, h1, h2⟩
    exact ⟨o, List.mem_of_getElem? (i := j) (by simpa using h1), h2⟩

open Classical in
theorem sim_step {W : Nat → Prop} {K : Kont} (P : Plan X all (fun v e' S => K.panic v (panEnv all e0 e'.d) S) K.normal r e0 S0 e1 S1 ho en st sE pj) (F : FOk X b cs up) (hκ : CallOk X.P X.κ.call) (hy : YldOk X.P X.κ.yld) (hQ : Closed X.P Q)
    (hW : ∀ (j : Nat) (o : Oper), all[j]? = some o → ∀ d, o.dst = some d → W d ∧ d < n) (ko : KOk Q r b cs n up kk W G0 S0 w0 e0 K)
    {listed : Array Bool} {k0 : Nat} {G : Gh} {S : St} {w : World} {a : Act} (Z : Sim X all e0 S0 ho en st pj n up G0 w0 listed k0 G S w a) {i : Nat} (hr : i ∈ Region.ready .any all listed) {rest : List Nat}
    (hk : ∀ k1 G' S' w' a', Sim X all e0 S0 ho en st pj n up G0 w0 (listed.setIfInBounds i true) k1 G' S' w' a' → Q (lone (b.atR a' (.inRegion all rest :: kk)) (cs S'.pan) w')) :
    Q (lone (b.atR a (.inRegion all (i :: rest) :: kk)) (cs S.pan) w) := by
  obtain ⟨o, hi, hn, hre⟩ := ready_spec Z.size hr
  have hil := get_lt hi
  have hls : i < listed.size := by rw [Z.size]; exact hil
  have hcl := closed_set Z.closed hi Z.size hre
  have hsz : (listed.setIfInBounds i true).size = all.size := by simpa using Z.size
  have hdst : ∀ d, o.dst = some d → d < n := fun d hd => (hW i o hi d hd).2
  have sees := fun d => P.sees Z.closed hi hn hre d
  -- the last value of a slot that is written here
  have last : ∀ {v : AV}, (∀ s, o.dst = some s → (en (i + 1)).t s = v) → ∀ s, o.dst = some s → v = (en all.size).t s := by
    intro v h s hs
    rw [← h s hs]
    refine (P.slots (by omega) (Nat.le_refl _) fun j q c d e => .inl fun hq => ?_).symm
    have := P.sl.uniq _ _ _ _ _ e hi hq hs
    omega
  -- what holds of the hoisted ones behind an operation
  have unStep : ∀ {G' : Gh} {S' : St} {w' : World}, Step G S w G' S' w' → ∀ (j : Nat) (p : Oper), all[j]? = some p → hoisted p = true → (listed.setIfInBounds i true).getD j false = false → G'.obj (ho j) = .un ∧ S'.objs[ho j]? = some (hobj X.P p) := by
    intro G' S' w' hst j p hj hh hl
    obtain ⟨_, hl'⟩ := unlisted_set hls hl
    obtain ⟨u1, u2⟩ := Z.un j p hj hh hl'
    obtain ⟨s1, s2⟩ := hst.un _ (List.getElem?_eq_some_iff.1 u2).1 u1
    exact ⟨s1, s2.trans u2⟩
  -- an anchored one: all that go ahead are done
  have atK : anch X o = true → k0 ≤ i ∧ st i = st k0 ∧ (en i).d = (en k0).d := by
    intro ha
    have hk0 : k0 ≤ i := by
      rcases Nat.lt_or_ge i k0 with q | q
      · have := (Z.lk i o hi ha).2 q; rw [hn] at this; cases this
      · exact q
    refine ⟨hk0, P.still hk0 (Nat.le_of_lt hil) fun j p c d hj => ?_⟩
    cases hp : anch X p
    · rfl
    · have := closed_bit Z.closed i o hi hre j (P.an hi hj d ha hp)
      have := (Z.lk j p hj hp).1 this
      omega
  rcases (P.fact hi).inv with ⟨hh, _, _⟩ | ⟨v, hh, hm, hout, hfree, hen, hst⟩ | ⟨v, d, hh, hm, hout, hmem, hlt, hen⟩ | ⟨hpj, hh, hm, _, _⟩ | ⟨p, hpj, hbit, _, _⟩
  · -- hoisted
    obtain ⟨u1, u2⟩ := Z.un i o hi hh hn
    obtain ⟨cv, w', m, r1, r2, r3, r4, r5, r6, r7, r8, r9, hg⟩ := hoist_run Z.pt.inv hh (P.H.ok i o (Nat.zero_le _) hi hh) u1 u2 b.roundOf a.eval
    have hwt : Region.wanted o (yielded all a.tmps) = true := by simp [Region.wanted, hg]
    refine hQ _ _ (op_value hi hwt r1) (hk k0 (G.newObj (ho i) w.heap.size m) S w' (a.put o.dst cv) ?_)
    have pt := Z.pt.put r3 r2 rfl hdst r4
    have hv : ∀ s, o.dst = some s → hval o (ho i) = (en all.size).t s := fun s hs => by
      rw [P.slots (m := 0) (Nat.zero_le _) (Nat.le_refl _) fun j q c d e => ?_, P.D.e0, P.H.val i o s (Nat.zero_le _) hi hh hs]
      by_cases hq : q.dst = some s
      · have := P.sl.uniq _ _ _ _ _ e hi hq hs
        subst this
        rw [hi] at e; cases e
        exact .inr hh
      · exact .inl hq
    refine ⟨hsz, hcl, Z.kle, Z.eqS, fun j p hj hp => ?_, fun p hp => ?_, Z.step.place (P.H.ge i o (Nat.zero_le _) hi hh) u1 r5 r6 r7 r8 r9, ?_, fun j p hj hp hl => ?_⟩
    · have : j ≠ i := by rintro rfl; rw [hi] at hj; cases hj; simp [anch, hh] at hp
      rw [getD_set_ne this]; exact Z.lk j p hj hp
    · have : p ≠ i := by
        rintro rfl
        obtain ⟨_, o', _, _, q1, q2, _⟩ := P.D.pan p hp
        rw [hi] at q1; cases q1; rw [hh] at q2; cases q2
      rw [getD_set_ne this]; exact Z.pn p hp
    · exact pt.congr (P.puts Z.size hi hv _ _ _ rfl) (by rw [put_d]; rfl)
    · obtain ⟨hne, hl'⟩ := unlisted_set hls hl
      obtain ⟨v1, v2⟩ := Z.un j p hj hp hl'
      refine ⟨?_, v2⟩
      have : ho j ≠ ho i := fun q => hne (P.H.inj j i p o (Nat.zero_le _) hj hp (Nat.zero_le _) hi hh q)
      simp only [Gh.newObj, if_neg this]; exact v1
  · -- may be done anywhere
    have hna : anch X o = false := by simp [anch, hm]
    have hS : opOut X all o (en i) (st k0) = some (.val v none (st k0)) := by
      rcases Nat.le_total i k0 with q | q
      · refine P.mov_up (by rw [hst] at *; exact hout) hfree q Z.kle fun c oc h1 h2 h3 h4 => ?_
        have hlc := (Z.lk c oc h3 h4).2 h2
        have hci : c ≠ i := by rintro rfl; rw [hi] at h3; cases h3; rw [hna] at h4; cases h4
        simp only [unord, Bool.and_eq_true, Bool.not_eq_true']
        constructor
        · cases hb : ((Region.before all).getD c 0).testBit i
          · rfl
          · have := closed_bit Z.closed c oc h3 (Z.closed c oc h3 hlc) i hb
            rw [hn] at this; cases this
        · cases hb : ((Region.before all).getD i 0).testBit c
          · rfl
          · have := bit_lt P.sl hi hb; omega
      · refine P.mov_down (Nat.le_of_lt hil) hout hfree (i - k0) k0 (by omega) fun c oc h1 h2 h3 h4 => ?_
        simp only [unord, Bool.and_eq_true, Bool.not_eq_true']
        constructor
        · cases hb : ((Region.before all).getD c 0).testBit i
          · rfl
          · have := bit_lt P.sl h3 hb; omega
        · cases hb : ((Region.before all).getD i 0).testBit c
          · rfl
          · have := closed_bit Z.closed i o hi hre c hb
            have := (Z.lk c oc h3 h4).1 this
            omega
    rw [← Z.eqS] at hS
    have hS' : opOut X all o (envOn all en e0 listed (en k0).d) S = some (.val v none S) := (opOut_congr (sees _)).trans hS
    refine doOp_ok F hκ hy hQ hi Z.pt hdst (kp := fun _ _ => none) (k := fun e2 S2 => if e2 = (envOn all en e0 listed (en k0).d).after v none o.dst ∧ S2 = S then some r else none) (r := r) (by rw [doOp_eq, hS']; simp [ooK]) ?_ (by intro _ _ _ _ _ _ _ _ h; cases h)
    intro G' S' w' e' a' f he
    by_cases q : e' = (envOn all en e0 listed (en k0).d).after v none o.dst ∧ S' = S
    rotate_left
    · rw [if_neg q] at he; cases he
    obtain ⟨rfl, rfl⟩ := q
    refine hk k0 G' S' w' a' ⟨hsz, hcl, Z.kle, Z.eqS, fun j p hj hp => ?_, fun p hp => ?_, Z.step.trans f.step, ?_, unStep f.step⟩
    · have : j ≠ i := by rintro rfl; rw [hi] at hj; cases hj; rw [hna] at hp; cases hp
      rw [getD_set_ne this]; exact Z.lk j p hj hp
    · have : p ≠ i := by
        rintro rfl
        obtain ⟨_, o', _, _, q1, _, q2, _⟩ := P.D.pan p hp
        rw [hi] at q1; cases q1; rw [hm] at q2; cases q2
      rw [getD_set_ne this]; exact Z.pn p hp
    · exact f.pt.congr (P.puts Z.size hi (last fun s hs => by rw [hen, put_eq hs]) _ _ _ rfl) (by rw [Env.after, put_d]; rfl)
  · -- in its turn
    have ha : anch X o = true := by simp [anch, hh, hm]
    obtain ⟨hk0, hs0, hd0⟩ := atK ha
    have hS' : opOut X all o (envOn all en e0 listed (en k0).d) S = some (.val v d (st (i + 1))) := by
      rw [Z.eqS, ← hs0]; exact (opOut_congr (sees _)).trans hout
    refine doOp_ok F hκ hy hQ hi Z.pt hdst (kp := fun _ _ => none) (k := fun e2 S2 => if e2 = (envOn all en e0 listed (en k0).d).after v d o.dst ∧ S2 = st (i + 1) then some r else none) (r := r) (by rw [doOp_eq, hS']; simp [ooK]) ?_ (by intro _ _ _ _ _ _ _ _ h; cases h)
    intro G' S' w' e' a' f he
    by_cases q : e' = (envOn all en e0 listed (en k0).d).after v d o.dst ∧ S' = st (i + 1)
    rotate_left
    · rw [if_neg q] at he; cases he
    obtain ⟨rfl, rfl⟩ := q
    refine hk (i + 1) G' _ w' a' ⟨hsz, hcl, hil, rfl, fun j p hj hp => ?_, fun p hp => ?_, Z.step.trans f.step, ?_, unStep f.step⟩
    · by_cases q : j = i
      · subst q; rw [getD_set_eq hls]; simp
      · rw [getD_set_ne q]
        constructor
        · intro hl; have := (Z.lk j p hj hp).1 hl; omega
        · intro hl; exact closed_bit Z.closed i o hi hre j (P.an hi hj (by omega) ha hp)
    · have := hlt p hp
      rw [getD_set_ne (by omega)]; exact Z.pn p hp
    · exact f.pt.congr (P.puts Z.size hi (last fun s hs => by rw [hen, Env.after, put_eq hs]) _ _ _ rfl) (by rw [hen, Env.after, Env.after, put_d, put_d, hd0]; rfl)
  · -- a panic
    have ha : anch X o = true := by simp [anch, hh, hm]
    obtain ⟨hk0, hs0, hd0⟩ := atK ha
    obtain ⟨_, o', v, S', q1, _, _, hout, hkp⟩ := P.D.pan i hpj
    rw [hi] at q1; cases q1
    have hS' : opOut X all o (envOn all en e0 listed (en k0).d) S = some (.pan v S') := by
      rw [Z.eqS, ← hs0]; exact (opOut_congr (sees _)).trans hout
    refine doOp_ok F hκ hy hQ hi Z.pt hdst (kp := fun v2 S2 => if v2 = v ∧ S2 = S' then some r else none) (k := fun _ _ => none) (r := r) (by rw [doOp_eq, hS']; simp [ooK]) (by intro _ _ _ _ _ _ h; cases h) ?_
    intro v2 u G' S2 w' hst hpt hru he
    by_cases q : v2 = v ∧ S2 = S'
    rotate_left
    · rw [if_neg q] at he; cases he
    obtain ⟨rfl, rfl⟩ := q
    refine ko.panic v2 u G' S2 w' (panEnv all e0 (en i).d) a ⟨Z.step.trans hst, ⟨hpt.inv, fun s => ?_, hpt.size, by rw [show (panEnv all e0 (en i).d).d = (en k0).d from hd0]; exact hpt.defs, hpt.pan, hpt.shape⟩, fun s hs => ?_⟩ hkp hru _
    · rw [panEnv_t]
      by_cases q : memN s (dsts all.toList) = true
      · rw [if_pos q]; trivial
      · rw [if_neg q]
        have := hpt.tmps s
        have hno : ¬ ∃ (j : Nat) (o : Oper), all[j]? = some o ∧ listed.getD j false = true ∧ o.dst = some s := by
          rintro ⟨j, p, h1, _, h3⟩
          exact q (mem_memN (dsts_mem.2 ⟨j, p, h1, h3⟩))
        simp only [envOn, if_neg hno] at this
        exact this
    · rw [panEnv_t]
      by_cases q : memN s (dsts all.toList) = true
      · obtain ⟨j, p, h1, h2⟩ := dsts_mem.1 (memN_mem q)
        exact (hs (hW j p h1 s h2).1).elim
      · rw [if_neg q]
  · -- behind a panic
    have := closed_bit Z.closed i o hi hre p hbit
    rw [Z.pn p hpj] at this; cases this

theorem sim_all {W : Nat → Prop} {K : Kont} (P : Plan X all (fun v e' S => K.panic v (panEnv all e0 e'.d) S) K.normal r e0 S0 e1 S1 ho en st sE pj) (F : FOk X b cs up) (hκ : CallOk X.P X.κ.call) (hy : YldOk X.P X.κ.yld) (hQ : Closed X.P Q)
    (hW : ∀ (j : Nat) (o : Oper), all[j]? = some o → ∀ d, o.dst = some d → W d ∧ d < n) (ko : KOk Q r b cs n up kk W G0 S0 w0 e0 K) :
    ∀ (fuel t : Nat) (listed : Array Bool) (k0 : Nat) (G : Gh) (S : St) (w : World) (a : Act), cnt listed all.size ≤ fuel → Sim X all e0 S0 ho en st pj n up G0 w0 listed k0 G S w a →
      Q (lone (b.atR a (.inRegion all (Region.linearise.go .any all fuel t listed []) :: kk)) (cs S.pan) w) := by
  have fin : ∀ (listed : Array Bool) (k0 : Nat) (G : Gh) (S : St) (w : World) (a : Act), Sim X all e0 S0 ho en st pj n up G0 w0 listed k0 G S w a → (∀ i, i < all.size → listed.getD i false = true) →
      Q (lone (b.atR a (.inRegion all [] :: kk)) (cs S.pan) w) := by
    intro listed k0 G S w a Z hl
    have hpj : pj = none := by
      cases hp : pj with
      | none => rfl
      | some p =>
        obtain ⟨_, o, _, _, h1, _⟩ := P.D.pan p hp
        have := hl p (get_lt h1)
        rw [Z.pn p hp] at this; cases this
    have hno := P.D.norm hpj
    obtain ⟨h1, h2⟩ := P.still Z.kle (Nat.le_refl _) fun j o c d hj => by
      cases hp : anch X o
      · rfl
      · have := (Z.lk j o hj hp).1 (hl j d); omega
    have hS : S = st all.size := Z.eqS.trans h1.symm
    subst hS
    refine hQ _ _ stepR_region_end ?_
    have hslot : ∀ s, (∀ (j : Nat) (o : Oper), all[j]? = some o → o.dst ≠ some s) → (en all.size).t s = e0.t s := fun s q => by
      rw [P.slots (m := 0) (Nat.zero_le _) (Nat.le_refl _) fun j p c d e => .inl (q j p e)]
      exact P.start fun j p h _ => q j p h
    refine ko.normal G _ w (en all.size) a ⟨Z.step, Z.pt.congr (fun s => ?_) h2, fun s hs => hslot s fun j o hj hd => hs (hW j o hj s hd).1⟩ hno
    by_cases q : ∃ (j : Nat) (o : Oper), all[j]? = some o ∧ listed.getD j false = true ∧ o.dst = some s
    · simp only [envOn, if_pos q]
    · simp only [envOn, if_neg q]
      exact hslot s fun j o hj hd => q ⟨j, o, hj, hl j (get_lt hj), hd⟩
  intro fuel
  induction fuel with
  | zero =>
    intro t listed k0 G S w a hc Z
    exact fin listed k0 G S w a Z (cnt_zero _ (by omega))
  | succ fuel ih =>
    intro t listed k0 G S w a hc Z
    simp only [Region.linearise.go]
    change Q (lone (b.atR a (.inRegion all (match (Region.ready .any all listed)[t % (Region.ready .any all listed).length]? with
      | some i => Region.linearise.go .any all fuel (t / (Region.ready .any all listed).length) (listed.setIfInBounds i true) [i]
      | none => [].reverse) :: kk)) (cs S.pan) w)
    cases hi : (Region.ready .any all listed)[t % (Region.ready .any all listed).length]? with
    | none =>
      have hnil : Region.ready .any all listed = [] := by
        cases hr : Region.ready .any all listed with
        | nil => rfl
        | cons x xs =>
          rw [hr] at hi
          have hlt : t % (x :: xs).length < (x :: xs).length := Nat.mod_lt _ (by simp)
          simp at hi
          simp at hlt
          omega
      exact fin listed k0 G S w a Z (all_listed Z.size P.sl.bound hnil)
    | some i =>
      simp only []
      rw [linearise_go_acc, List.reverse_singleton, List.singleton_append]
      have hr := List.mem_of_getElem? hi
      refine sim_step P F hκ hy hQ hW ko Z hr fun k1 G' S' w' a' Z' => ih _ _ k1 G' S' w' a' ?_ Z'
      obtain ⟨o, ho, hn, _⟩ := ready_spec Z.size hr
      have := cnt_set (l := listed) (i := i) (by rw [Z.size]; exact get_lt ho) hn all.size (get_lt ho)
      omega

/-- A region that draws its order. -/
theorem draw_ok (F : FOk X b cs up) (hmx : X.P.follows .mixedOrders = true) (hκ : CallOk X.P X.κ.call) (hy : YldOk X.P X.κ.yld) (hQ : Closed X.P Q) {W : Nat → Prop} (hW : ∀ o ∈ all.toList, ∀ d, o.dst = some d → W d ∧ d < n) {K : Kont}
    {G : Gh} {S : St} {w : World} {e : Env} {a : Act} {id : Nat} (p : Pt n up G S w e a) (h : drawRegion X all e S K.panic K.normal = some r) (ko : KOk Q r b cs n up kk W G S w e K) :
    Q (lone (b.atR a (.code (.region id all true) :: kk)) (cs S.pan) w) := by
  have hW' : ∀ (j : Nat) (o : Oper), all[j]? = some o → ∀ d, o.dst = some d → W d ∧ d < n := fun j o hj => hW o (List.mem_of_getElem? (i := j) (by simpa using hj))
  unfold drawRegion at h
  simp only at h
  cases hs : slotsOk all (Region.before all)
  · simp [hs] at h
  · cases han : anchoredOk X all.toList (Region.before all)
    · simp [hs, han] at h
    · simp only [hs, han, Bool.and_self, cond_true] at h
      have sl := slotsOk_spec hs
      obtain ⟨e1, S1, ho, h, H⟩ := hoist_spec sl.uniq all.toList 0 e S (by simp) h
      obtain ⟨en, st, sE, pj, D⟩ := draw_spec all.toList 0 e1 S1 ⟨[], []⟩ (by simp) (Nat.zero_le _) h
      have PL : Plan X all (fun v e' S => K.panic v (panEnv all e e'.d) S) K.normal r e S e1 S1 ho en st sE pj := ⟨sl, fun h1 h2 h3 h4 h5 => anchoredOk_spec han h1 h2 h3 h4 h5, D, H⟩
      refine hQ _ _ stepR_region_draw ?_
      simp only [Region.schedule, hmx, Bool.true_or, if_true, Region.linearise]
      obtain ⟨more, hmore⟩ := H.more
      have hpan : S1.pan = S.pan := by rw [hmore]
      have f0 : ∀ j, (Array.replicate all.size false).getD j false = false := fun j => by
        rw [Array.getD_eq_getD_getElem?, Array.getElem?_replicate]
        split <;> rfl
      have Z : Sim X all e S ho en st pj n up G w (Array.replicate all.size false) 0 G S1 w.drew a := by
        refine ⟨by simp, fun i o _ hl => (by rw [f0] at hl; cases hl), Nat.zero_le _, D.s0.symm, fun i o _ _ => (by rw [f0]; simp), fun p _ => f0 p, ?_, ?_, fun j o hj hh _ => ⟨?_, H.obj j o (Nat.zero_le _) hj hh⟩⟩
        · rw [hmore]
          exact (Step.drew G S w).trans (Step.more G S w.drew more)
        · have i1 : Inv G S1 w.drew := by rw [hmore]; exact (p.inv.drew).more more
          refine (Pt.mono p (Mono.refl G) i1 hpan).congr (fun s => ?_) (by rw [D.e0, H.d]; rfl)
          have : ¬ ∃ (j : Nat) (o : Oper), all[j]? = some o ∧ (Array.replicate all.size false).getD j false = true ∧ o.dst = some s := by
            rintro ⟨j, o, _, h2, _⟩
            rw [f0] at h2; cases h2
          simp only [envOn, if_neg this]
        · exact p.inv.beyond _ (H.ge j o (Nat.zero_le _) hj hh)
      have := sim_all PL F hκ hy hQ hW' ko all.size (w.tape w.drawn (.order b.fn id)) _ 0 G S1 w.drew a (cnt_le _ _) Z
      rw [hpan] at this
      exact this

end
end Go.Sac
