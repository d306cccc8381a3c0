/- Operations that turn the state: maps. -/
import Derived.Test.YtippafigppeblaaGreatSacL
namespace Go.Sac
set_option linter.unusedVariables false
set_option linter.unusedSimpArgs false
open Go

section
variable {P : Program} {G : Gh} {S : St} {w : World}

theorem map_rel (inv : Inv G S w) {o : Nat} {mv : Value} {es : List (AV × AV × Nat)} {c : Nat} (r : Rel G (.map o) mv) (ho : S.objs[o]? = some (.map es c)) :
    ∃ b ms, mv = .map (some b) ∧ G.obj o = .at b ∧ w.heap[b]? = some (.map ms c) ∧ RelE G es ms.toList := by
  simp only [Rel] at r
  cases hg : G.obj o with
  | un => simp [hg] at r
  | dead => rw [inv.dead o hg] at ho; cases ho
  | «at» b =>
    simp only [hg] at r; subst r
    obtain ⟨x, hx, k⟩ := inv.obj o b hg
    rw [ho] at hx; cases hx
    obtain ⟨ms, h1, h2⟩ := k
    exact ⟨b, ms, rfl, rfl, h1, h2⟩

theorem run_setObj_map {b : Nat} {ms ms' : Array MapEntry} {c c' : Nat} (hb : w.heap[b]? = some (.map ms c)) : (setObj b (.map ms' c')).run P w = .ok () { w with heap := w.heap.setIfInBounds b (.map ms' c') } := by
  simp [setObj, Sem.run, hb]

/-- A map that turns. -/
theorem map_turn (inv : Inv G S w) {o b : Nat} {ms ms' : Array MapEntry} {c c' : Nat} {es' : List (AV × AV × Nat)} (hg : G.obj o = .at b) (hb : w.heap[b]? = some (.map ms c)) (r : RelE G es' ms'.toList) :
    (setObj b (.map ms' c')).run P w = .ok () { w with heap := w.heap.setIfInBounds b (.map ms' c') } ∧
    Inv G (S.setObj o (.map es' c')) { w with heap := w.heap.setIfInBounds b (.map ms' c') } ∧ Step G S w G (S.setObj o (.map es' c')) { w with heap := w.heap.setIfInBounds b (.map ms' c') } := by
  have hlt : b < w.heap.size := (Array.getElem?_eq_some_iff.1 hb).1
  refine ⟨run_setObj_map hb, inv.turn hg _ (by simp) ?_ ⟨ms', ?_, r⟩ ?_ rfl rfl rfl⟩
  · intro d hd
    rw [Array.getElem?_setIfInBounds, if_neg (Ne.symm hd)]
  · rw [Array.getElem?_setIfInBounds, if_pos rfl]; simp [hlt]
  · intro d e f hd
    rw [Array.getElem?_setIfInBounds, if_pos rfl] at hd; simp [hlt] at hd

theorem makeMap_ok (inv : Inv G S w) : AOk P G S w (do pure (.value (← (do pure (.map (some (← newObj (.map #[] 0)))) : Sem Value)))) (.map S.objs.length) (S.push (.map [] 0)) := by
  obtain ⟨h1, h2, h3⟩ := alloc_heap w (.map #[] 0)
  obtain ⟨i1, i2⟩ := inv.push (w' := w.alloc (.map #[] 0)) (.map [] 0) 0 h1 h2 ⟨#[], h3, rfl⟩ (by intro c e f hc; rw [h3] at hc; cases hc) rfl rfl rfl
  exact AOk.val (cv := .map (some w.heap.size)) (by simp) (by simp [Rel, Gh.newObj]) i1 i2

theorem RelE.length : ∀ {es : List (AV × AV × Nat)} {l : List MapEntry}, RelE G es l → es.length = l.length
  | [], _, h => by simp only [RelE] at h; subst h; rfl
  | e :: es, _, h => by obtain ⟨m, ms, rfl, _, _, _, h⟩ := h; simp [h.length]

theorem RelE.append {e : AV × AV × Nat} {m : MapEntry} (h1 : Rel G e.1 m.key) (h2 : Rel G e.2.1 m.val) (h3 : m.born = e.2.2) : ∀ {es : List (AV × AV × Nat)} {l : List MapEntry}, RelE G es l → RelE G (es ++ [e]) (l ++ [m])
  | [], _, h => by simp only [RelE] at h; subst h; exact ⟨m, [], rfl, h1, h2, h3, rfl⟩
  | e :: es, _, h => by obtain ⟨m', ms, rfl, k1, k2, k3, h⟩ := h; exact ⟨m', _, rfl, k1, k2, k3, RelE.append h1 h2 h3 h⟩

theorem RelE.set {e : AV × AV × Nat} {m : MapEntry} (h1 : Rel G e.1 m.key) (h2 : Rel G e.2.1 m.val) (h3 : m.born = e.2.2) : ∀ {es : List (AV × AV × Nat)} {l : List MapEntry} (i : Nat), RelE G es l → RelE G (es.set i e) (l.set i m)
  | [], _, i, h => by simp only [RelE] at h; subst h; simp [RelE]
  | e :: es, _, 0, h => by obtain ⟨m', ms, rfl, k1, k2, k3, h⟩ := h; exact ⟨m, ms, rfl, h1, h2, h3, h⟩
  | e :: es, _, i + 1, h => by obtain ⟨m', ms, rfl, k1, k2, k3, h⟩ := h; exact ⟨m', _, rfl, k1, k2, k3, RelE.set h1 h2 h3 i h⟩

theorem RelE.erase : ∀ {es : List (AV × AV × Nat)} {l : List MapEntry} (i : Nat), RelE G es l → RelE G (es.eraseIdx i) (l.eraseIdx i)
  | [], _, i, h => by simp only [RelE] at h; subst h; simp [RelE]
  | e :: es, _, 0, h => by obtain ⟨m', ms, rfl, k1, k2, k3, h⟩ := h; exact h
  | e :: es, _, i + 1, h => by obtain ⟨m', ms, rfl, k1, k2, k3, h⟩ := h; exact ⟨m', _, rfl, k1, k2, k3, RelE.erase i h⟩

theorem modify_list (ms : Array MapEntry) (i : Nat) (f : MapEntry → MapEntry) {m : MapEntry} (h : ms.toList[i]? = some m) : (ms.modify i f).toList = ms.toList.set i (f m) := by
  apply List.ext_getElem?
  intro j
  simp only [Array.toList_modify, List.getElem?_modify, List.getElem?_set]
  by_cases q : i = j
  · subst q
    have hlt := (List.getElem?_eq_some_iff.1 h).1
    have hm : ms[i]? = some m := by simpa using h
    rw [h]; simp; simpa using hlt
  · simp [q]

theorem insert_ok (inv : Inv G S w) {t : TypeId} {m k v : AV} {mv kv vv : Value} {S' : St} (h : oMapUpdate P t S m k v = some S') (rm : Rel G m mv) (rk : Rel G k kv) (rv : Rel G v vv) :
    AOk P G S w (do Instr.mapUpdate t mv kv vv; pure .skip) undefA S' := by
  unfold oMapUpdate at h
  split at h
  · rename_i kt et o hu
    split at h
    · rename_i es c ho
      cases hk : keyOk P kt k
      · simp [hk] at h
      · simp only [hk, cond_true] at h
        split at h
        · cases h
        · simp only [Option.map_eq_some_iff] at h
          obtain ⟨r, h1, h⟩ := h
          obtain ⟨b, ms, rfl, hg, hb, re⟩ := map_rel inv rm ho
          obtain ⟨r', q1, q2⟩ := findKey_rel (P := P) w hk rk re h1
          have hck := checkKey_rel (P := P) (G := G) w false hk rk
          cases r with
          | none =>
            simp only [Found] at q2; subst q2
            simp only at h; subst h
            obtain ⟨p1, p2, p3⟩ := map_turn (P := P) inv (ms' := ms.push { key := kv, val := vv, born := c }) (c' := c + 1) hg hb (by rw [Array.toList_push]; exact RelE.append (e := (k, v, c)) rk rv rfl re)
            refine AOk.unit ?_ p2 p3
            simp [Instr.mapUpdate, run_underlying hu, run_getObj_map w b ms c hb, hck, q1, p1]
          | some p =>
            obtain ⟨i, e⟩ := p
            obtain ⟨ek, ev, born⟩ := e
            obtain ⟨me, j, hj, m1, m2, rfl, k1, k2, k3, k4⟩ := q2
            simp only at h; subst h
            have hj : i = j := by omega
            subst hj
            have hst := stays_rel (P := P) w k4
            obtain ⟨p1, p2, p3⟩ := map_turn (P := P) inv (ms' := ms.modify i fun e => { e with key := kv, val := vv }) (c' := c) hg hb (by rw [modify_list ms i _ m1]; exact RelE.set (e := (k, v, born)) (m := { me with key := kv, val := vv }) rk rv k3 i re)
            refine AOk.unit ?_ p2 p3
            have hm : ms[i]? = some me := by simpa using m1
            simp [Instr.mapUpdate, run_underlying hu, run_getObj_map w b ms c hb, hck, q1, hm, hst, p1]
    · cases h
  · cases h

theorem mapEntry_ok (inv : Inv G S w) {t : TypeId} {m k v : AV} {mv kv : Value} {S' : St} (h : oMapEntry P t S m k = some (v, S')) (rm : Rel G m mv) (rk : Rel G k kv) :
    AOk P G S w (do pure (.value (← Instr.mapEntry t mv kv))) v S' := by
  unfold oMapEntry at h
  split at h
  · rename_i kt et o hu
    split at h
    · rename_i es c ho
      cases hk : (keyOk P kt k && okT P et)
      · simp [hk] at h
      · simp only [hk, cond_true, Option.bind_eq_some_iff] at h
        simp only [Bool.and_eq_true] at hk
        obtain ⟨r, h1, h⟩ := h
        obtain ⟨b, ms, rfl, hg, hb, re⟩ := map_rel inv rm ho
        obtain ⟨r', q1, q2⟩ := findKey_rel (P := P) w hk.1 rk re h1
        have hck := checkKey_rel (P := P) (G := G) w false hk.1 rk
        cases r with
        | none =>
          simp only [Found] at q2; subst q2
          simp only [Option.map_eq_some_iff, Prod.mk.injEq] at h
          obtain ⟨z, hz, rfl, rfl⟩ := h
          obtain ⟨i, zv, hi, hz', _, _⟩ := okT_spec hk.2
          have rz := zero_rel (G := G) hk.2 hi hz' hz
          obtain ⟨p1, p2, p3⟩ := map_turn (P := P) inv (ms' := ms.push { key := kv, val := zv, born := c }) (c' := c + 1) hg hb (by rw [Array.toList_push]; exact RelE.append (e := (k, z, c)) rk rz rfl re)
          refine AOk.val (cv := .tuple #[zv, .int .i64 c]) ?_ ⟨_, rfl, _, _, rfl, rz, _, _, rfl, rfl, rfl⟩ p2 p3
          simp [Instr.mapEntry, run_underlying hu, run_getObj_map w b ms c hb, hck, q1, run_zeroValue' hi hz', p1, goInt]
        | some p =>
          obtain ⟨i, e⟩ := p
          obtain ⟨ek, ev, born⟩ := e
          obtain ⟨me, j, hj, m1, m2, rfl, k1, k2, k3, k4⟩ := q2
          simp only [Option.some.injEq, Prod.mk.injEq] at h
          obtain ⟨rfl, rfl⟩ := h
          have hj : i = j := by omega
          subst hj
          have hst := stays_rel (P := P) w k4
          have hm : ms[i]? = some me := by simpa using m1
          obtain ⟨p1, p2, p3⟩ := map_turn (P := P) inv (ms' := ms.modify i fun e => { e with key := kv }) (c' := c) hg hb (by rw [modify_list ms i _ m1]; exact RelE.set (e := (k, ev, born)) (m := { me with key := kv }) rk k2 k3 i re)
          refine AOk.val (cv := .tuple #[me.val, .int .i64 born]) ?_ ⟨_, rfl, _, _, rfl, k2, _, _, rfl, rfl, rfl⟩ p2 p3
          simp only at k3
          simp [Instr.mapEntry, run_underlying hu, run_getObj_map w b ms c hb, hck, q1, hm, hst, p1, goInt, k3]
    · cases h
  · cases h

theorem setBorn_rel {bn : Int} {v : AV} {vv : Value} (rv : Rel G v vv) : ∀ {es es' : List (AV × AV × Nat)} {ms : List MapEntry}, setBorn bn v es = some es' → RelE G es ms →
    ∃ i me, ms.findIdx? (fun e => (e.born : Int) == bn) = some i ∧ ms[i]? = some me ∧ RelE G es' (ms.set i { me with val := vv })
  | [], _, _, h, _ => by simp [setBorn] at h
  | e :: es, es', _, h, r => by
    obtain ⟨m, ms, rfl, k1, k2, k3, r⟩ := r
    unfold setBorn at h
    cases hb : ((e.2.2 : Int) == bn)
    · simp only [hb, cond_false, Option.map_eq_some_iff] at h
      obtain ⟨es1, h, rfl⟩ := h
      obtain ⟨i, me, q1, q2, q3⟩ := setBorn_rel rv h r
      refine ⟨i + 1, me, ?_, by simpa using q2, ⟨m, _, rfl, k1, k2, k3, q3⟩⟩
      rw [List.findIdx?_cons, k3, hb]; simp [q1]
    · simp only [hb, cond_true, Option.some.injEq] at h; subst h
      refine ⟨0, m, ?_, rfl, ⟨_, ms, rfl, k1, rv, k3, r⟩⟩
      rw [List.findIdx?_cons, k3, hb]; rfl

theorem entryStore_ok (inv : Inv G S w) {t : TypeId} {m s v : AV} {mv sv vv : Value} {S' : St} (h : oEntryStore S m s v = some S') (rm : Rel G m mv) (rs : Rel G s sv) (rv : Rel G v vv) :
    AOk P G S w (do Instr.entryStore t mv sv vv; pure .skip) undefA S' := by
  unfold oEntryStore at h
  split at h
  · cases h
  · rename_i o kk bn hv
    split at h
    · rename_i es c ho
      simp only [Option.map_eq_some_iff] at h
      obtain ⟨es', h, rfl⟩ := h
      obtain ⟨b, ms, rfl, hg, hb, re⟩ := map_rel inv rm ho
      simp only [Rel] at rs; subst rs
      obtain ⟨i, me, q1, q2, q3⟩ := setBorn_rel rv h re
      obtain ⟨p1, p2, p3⟩ := map_turn (P := P) inv (ms' := ms.modify i fun e => { e with val := vv }) (c' := c) hg hb (by rw [modify_list ms i _ q2]; exact q3)
      refine AOk.unit ?_ p2 p3
      have fi : ∀ (a : Array MapEntry) (p : MapEntry → Bool), a.findIdx? p = a.toList.findIdx? p := by intro a p; cases a; simp
      have : ms.findIdx? (fun e => (e.born : Int) == bn) = some i := by rw [fi]; exact q1
      simp [Instr.entryStore, run_getObj_map w b ms c hb, asInt, asIntOf, this, p1]
    · cases h
  · cases h

theorem delete_ok (inv : Inv G S w) {t : TypeId} {m k : AV} {mv kv : Value} {S' : St} (h : oDelete P t S m k = some S') (rm : Rel G m mv) (rk : Rel G k kv) (rt ut : TypeId) :
    AOk P G S w (do pure (.value (← Builtin.delete_ #[t, ut] rt #[mv, kv]))) undefA S' := by
  unfold oDelete at h
  split at h
  · rename_i kt et o hu
    split at h
    · rename_i es c ho
      cases hk : keyOk P kt k
      · simp [hk] at h
      · simp only [hk, cond_true, Option.map_eq_some_iff] at h
        obtain ⟨r, h1, h⟩ := h
        obtain ⟨b, ms, rfl, hg, hb, re⟩ := map_rel inv rm ho
        obtain ⟨r', q1, q2⟩ := findKey_rel (P := P) w hk rk re h1
        have hck := fun em => checkKey_rel (P := P) (G := G) w em hk rk
        cases r with
        | none =>
          simp only [Found] at q2; subst q2
          simp only at h; subst h
          obtain ⟨p1, p2, p3⟩ := map_turn (P := P) inv (ms' := ms) (c' := c) hg hb re
          refine AOk.val (cv := .tuple #[]) ?_ ⟨_, rfl, rfl⟩ p2 p3
          simp [Builtin.delete_, run_underlying hu, run_getObj_map w b ms c hb, hck, q1, p1]
        | some p =>
          obtain ⟨i, e⟩ := p
          obtain ⟨me, j, hj, m1, m2, rfl, k1, k2, k3, k4⟩ := q2
          simp only at h; subst h
          obtain ⟨p1, p2, p3⟩ := map_turn (P := P) inv (ms' := ms.eraseIdxIfInBounds i) (c' := c) (es' := es.eraseIdx i) hg hb (by
            have : (ms.eraseIdxIfInBounds i).toList = ms.toList.eraseIdx i := by simp
            rw [this]; exact RelE.erase i re)
          refine AOk.val (cv := .tuple #[]) ?_ ⟨_, rfl, rfl⟩ p2 p3
          simp [Builtin.delete_, run_underlying hu, run_getObj_map w b ms c hb, hck, q1, p1]
    · cases h
  · cases h

theorem clear_ok (inv : Inv G S w) {t : TypeId} {d : TypeDesc} (hu : P.underlying t = some d) {o : Nat} {mv : Value} {es : List (AV × AV × Nat)} {c : Nat} (rm : Rel G (.map o) mv) (ho : S.objs[o]? = some (.map es c)) (rt : TypeId) :
    AOk P G S w (do pure (.value (← Builtin.clear_ #[t] rt #[mv]))) undefA (S.setObj o (.map [] c)) := by
  obtain ⟨b, ms, rfl, hg, hb, re⟩ := map_rel inv rm ho
  obtain ⟨p1, p2, p3⟩ := map_turn (P := P) inv (ms' := #[]) (c' := c) (es' := []) hg hb rfl
  refine AOk.val (cv := .tuple #[]) ?_ ⟨_, rfl, rfl⟩ p2 p3
  simp [Builtin.clear_, run_underlying hu, run_getObj_map w b ms c hb, p1]

end
end Go.Sac
