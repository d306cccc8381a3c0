/- Operations that leave the state alone: rows, conversions, maps; all of them. -/
import Derived.Test.YtippafigppeblaaGreatSacI
import Derived.Laws.IdiomStrings
import Derived.Laws.BytesString
namespace Go.Sac
set_option linter.unusedVariables false
set_option linter.unusedSimpArgs false
open Go

section
variable {P : Program} {G : Gh} {S : St} {w : World}

/-- Rows of 'sz' cells, and their cells. -/
def Flat (sz : Nat) : List AV → List AV → Prop
  | [], cs => cs = []
  | r :: rs, cs => ∃ c d, r = .agg c ∧ c.length = sz ∧ cs = c ++ d ∧ Flat sz rs d

theorem Flat.flat {sz : Nat} : ∀ {rows cs : List AV}, Flat sz rows cs → flat rows = some cs
  | [], _, h => by simp only [Flat] at h; subst h; rfl
  | r :: rs, _, h => by
    obtain ⟨c, d, rfl, _, rfl, h⟩ := h
    simp [Sac.flat, h.flat]

theorem Flat.length {sz : Nat} : ∀ {rows cs : List AV}, Flat sz rows cs → cs.length = rows.length * sz
  | [], _, h => by simp only [Flat] at h; subst h; simp
  | r :: rs, _, h => by
    obtain ⟨c, d, rfl, hc, rfl, h⟩ := h
    simp [h.length, hc, Nat.succ_mul]; omega

theorem Flat.append {sz : Nat} : ∀ {rows cs rows' cs' : List AV}, Flat sz rows cs → Flat sz rows' cs' → Flat sz (rows ++ rows') (cs ++ cs')
  | [], _, _, _, h, k => by simp only [Flat] at h; subst h; simpa using k
  | r :: rs, _, _, _, h, k => by
    obtain ⟨c, d, rfl, hc, rfl, h⟩ := h
    exact ⟨c, _, rfl, hc, by simp, h.append k⟩

theorem Flat.take {sz : Nat} : ∀ {rows cs : List AV} (n : Nat), Flat sz rows cs → Flat sz (rows.take n) (cs.take (n * sz))
  | [], _, n, h => by simp only [Flat] at h; subst h; simp [Flat]
  | r :: rs, _, 0, h => by simp [Flat]
  | r :: rs, _, n + 1, h => by
    obtain ⟨c, d, rfl, hc, rfl, h⟩ := h
    refine ⟨c, d.take (n * sz), rfl, hc, ?_, h.take n⟩
    rw [List.take_append, Nat.succ_mul, List.take_of_length_le (by omega)]
    congr 2; omega

theorem chunk_flat {sz : Nat} : ∀ (n : Nat) (cs : List AV), cs.length = n * sz → Flat sz (chunk sz n cs) cs
  | 0, cs, h => by simp at h; subst h; rfl
  | n + 1, cs, h => by
    rw [Nat.succ_mul] at h
    exact ⟨cs.take sz, cs.drop sz, rfl, by simp; omega, by simp, chunk_flat n _ (by simp; omega)⟩

theorem chunk_length (sz : Nat) : ∀ (n : Nat) (cs : List AV), (chunk sz n cs).length = n
  | 0, _ => rfl
  | n + 1, cs => by simp [chunk, chunk_length sz n]

theorem rowsAt_flat {sz : Nat} : ∀ {rows : List AV} {b off : Nat}, RowsAt G sz rows b off → ∃ cs, Flat sz rows cs ∧ CellsAt G cs b off
  | [], _, _, _ => ⟨[], rfl, by simp [CellsAt]⟩
  | .agg c :: rs, b, off, h => by
    simp only [RowsAt] at h
    obtain ⟨h1, h2, h3⟩ := h
    obtain ⟨d, k1, k2⟩ := rowsAt_flat h3
    refine ⟨c ++ d, ⟨c, d, rfl, h1, rfl, k1⟩, ?_⟩
    have : ∀ (c : List AV) (o : Nat), CellsAt G c b o → CellsAt G d b (o + c.length) → CellsAt G (c ++ d) b o := by
      intro c
      induction c with
      | nil => intro o _ h; simpa using h
      | cons x xs ih =>
        intro o h k
        simp only [CellsAt] at h
        simp only [List.cons_append, CellsAt]
        refine ⟨h.1, ih _ h.2 ?_⟩
        rw [show o + 1 + xs.length = o + (x :: xs).length by simp; omega]
        exact k
    exact this c off h2 (by rw [h1]; exact k2)
  | .bool _ :: _, _, _, k | .int .. :: _, _, _, k | .str _ :: _, _, _, k | .ptr .. :: _, _, _, k | .nilptr :: _, _, _, k | .eptr .. :: _, _, _, k | .lst .. :: _, _, _, k
  | .sl .. :: _, _, _, k | .map _ :: _, _, _, k | .nilmap :: _, _, _, k | .func .. :: _, _, _, k | .yld _ :: _, _, _, k | .nilfunc :: _, _, _, k | .iface .. :: _, _, _, k
  | .niliface :: _, _, _, k | .tup _ :: _, _, _, k | .junk :: _, _, _, k => by simp [RowsAt] at k

theorem Flat.rowsAt {sz : Nat} : ∀ {rows cs : List AV} {b off : Nat}, Flat sz rows cs → CellsAt G cs b off → RowsAt G sz rows b off
  | [], _, _, _, _, _ => by simp [RowsAt]
  | r :: rs, _, b, off, h, k => by
    obtain ⟨c, d, rfl, hc, rfl, h⟩ := h
    have : ∀ (c : List AV) (o : Nat), CellsAt G (c ++ d) b o → CellsAt G c b o ∧ CellsAt G d b (o + c.length) := by
      intro c
      induction c with
      | nil => intro o h; exact ⟨by simp [CellsAt], by simpa using h⟩
      | cons x xs ih =>
        intro o h
        simp only [List.cons_append, CellsAt] at h
        obtain ⟨p, q⟩ := ih _ h.2
        refine ⟨by simp only [CellsAt]; exact ⟨h.1, p⟩, ?_⟩
        rw [show o + (x :: xs).length = o + 1 + xs.length by simp; omega]
        exact q
    obtain ⟨p, q⟩ := this c off k
    simp only [RowsAt]
    exact ⟨hc, p, h.rowsAt (by rw [← hc]; exact q)⟩

/-- The rows of a slice, as they lie. -/
theorem rows_rel (inv : Inv G S w) {sz : Nat} {a : AV} {v : Value} {rows : List AV} (h : rowsOf S sz a = some rows) (hs : sliceV a = true) (r : Rel G a v) :
    ∃ p cap cs vs, v = .slice p rows.length cap ∧ rows.length ≤ cap ∧ Flat sz rows cs ∧ RelL G cs vs ∧ cs.all scal = true ∧ (rows = [] ∨ ∃ b off, p = some ⟨b, off, none⟩ ∧ ∀ j u, vs[j]? = some u → w.cell? ⟨b, off + j, none⟩ = some u) := by
  cases a <;> simp [sliceV] at hs <;> simp only [rowsOf] at h
  case lst st sz' rs =>
    cases hz : (rs.isEmpty || Nat.beq sz sz')
    · simp [hz] at h
    · simp [hz] at h; subst h
      simp only [Rel] at r
      obtain ⟨p, cap, rfl, hl, ht, hr⟩ := r
      cases rs with
      | nil => exact ⟨p, cap, [], [], rfl, hl, rfl, rfl, rfl, .inl rfl⟩
      | cons x xs =>
        simp at hz; subst hz
        rcases hr with ⟨q, _⟩ | ⟨b, off, rfl, hr, _⟩
        · cases q
        · obtain ⟨cs, k1, k2⟩ := rowsAt_flat hr
          obtain ⟨vs, q1, q2, q3⟩ := k2.rel inv
          exact ⟨_, cap, cs, vs, rfl, hl, k1, q1, q3, .inr ⟨b, off, rfl, q2⟩⟩
  case sl o off len cp sz' =>
    cases hz : Nat.beq sz sz'
    · simp [hz] at h
    · simp only [hz, cond_true] at h
      split at h
      · rename_i cells ho
        simp only [Option.map_eq_some_iff] at h
        obtain ⟨cs, hc, rfl⟩ := h
        have hra : readAt S (.ptr o off) (len * sz) = some cs := by simp [readAt, ho, hc]
        simp only [Rel] at r
        cases hg : G.obj o with
        | un => simp [hg] at r
        | dead => rw [inv.dead o hg] at ho; cases ho
        | «at» b =>
          simp only [hg] at r
          obtain ⟨c, rfl, hl, _⟩ := r
          have rp : Rel G (.ptr o off) (.pointer (some ⟨b, off, none⟩)) := by simp [Rel, hg]
          obtain ⟨b', off', vs, e, q1, q2, q3, q4⟩ := read_rel inv rp hra
          cases e
          have hlen := chunk_length sz len cs
          refine ⟨_, c, cs, vs, by rw [hlen], by rw [hlen]; exact hl, chunk_flat _ _ (by rw [q1.length, q2]), q1, q4, .inr ⟨b, off, rfl, q3⟩⟩
      · cases h

theorem bytesOf_rel : ∀ {rows : List AV} {bs : List UInt8} {cs : List AV} {vs : List Value}, bytesOf rows = some bs → Flat 1 rows cs → RelL G cs vs →
    ∃ ns : List Int, vs = ns.map (Value.int .u8) ∧ ns.map (fun n => UInt8.ofNat n.toNat) = bs
  | [], bs, cs, vs, h, f, r => by
    simp only [Flat] at f; subst f
    simp only [RelL] at r; subst r
    simp [bytesOf] at h; subst h
    exact ⟨[], rfl, rfl⟩
  | x :: rows, bs, cs, vs, h, f, r => by
    unfold bytesOf at h
    split at h
    · cases ‹_ = []›
    · rename_i n rest e
      cases e
      obtain ⟨c, d, e, _, rfl, f⟩ := f
      cases e
      obtain ⟨v, us, rfl, r1, r2⟩ := r
      simp only [Rel] at r1; subst r1
      cases hb : (decide (0 ≤ n) && decide (n < 256))
      · simp [hb] at h
      · simp [hb] at h
        obtain ⟨bs', h, rfl⟩ := h
        obtain ⟨ns, rfl, rfl⟩ := bytesOf_rel h f r2
        exact ⟨n :: ns, rfl, rfl⟩
    · cases h

theorem push_fold : ∀ (ns : List Int) (s : ByteArray), ns.foldl (fun r n => r.push (UInt8.ofNat n.toNat)) s = ⟨(s.data.toList ++ ns.map fun n => UInt8.ofNat n.toNat).toArray⟩
  | [], s => by simp
  | n :: ns, s => by
    rw [List.foldl_cons, push_fold ns]
    simp [ByteArray.push]

theorem bytesToString_ok (inv : Inv G S w) {x : AV} {xv : Value} {bs : List UInt8} (hs : sliceV x = true) (h : (rowsOf S 1 x).bind bytesOf = some bs) (r : Rel G x xv) :
    (Conv.bytesToString xv).run P w = .ok (.string ⟨bs.toArray⟩) w := by
  simp only [Option.bind_eq_some_iff] at h
  obtain ⟨rows, h1, h2⟩ := h
  obtain ⟨p, cap, cs, vs, rfl, hl, hf, hr, hsc, hm⟩ := rows_rel inv h1 hs r
  obtain ⟨ns, rfl, rfl⟩ := bytesOf_rel h2 hf hr
  cases p with
  | none =>
    rcases hm with rfl | ⟨_, _, e, _⟩
    · simp only [Flat] at hf; subst hf
      simp only [RelL] at hr
      have : ns = [] := by simpa using hr
      subst this
      simp [Conv.bytesToString]; rfl
    · cases e
  | some a =>
    have hlen : (ns.map (Value.int .u8)).length = rows.length := by rw [← hr.length, hf.length]; simp
    have hld : (loadCells a rows.length).run P w = .ok (ns.map (Value.int .u8)).toArray w := by
      rw [← hlen]
      apply run_loadCells_list
      intro j u hj
      rcases hm with rfl | ⟨b, off, e, hm⟩
      · simp at hlen; subst hlen; simp at hj
      · cases e; rw [add_lit]; exact hm j u hj
    rw [run_bytesToString w a _ cap ns hld, push_fold]
    simp

theorem stringToBytes_ok (inv : Inv G S w) {src dst e : TypeId} (hs : P.underlying src = some .string) (hd : P.underlying dst = some (.slice e)) (he : P.underlying e = some (.int .u8)) (s : List UInt8) :
    VOk P G S w (convert src dst (.string ⟨s.toArray⟩)) (.lst .unk 1 (s.map byteRow)) := by
  have hrun := run_bytes_of_string w src dst e ⟨s.toArray⟩ hs hd he
  have hsz : ByteArray.size ⟨s.toArray⟩ = s.length := by simp [ByteArray.size]
  rw [hsz] at hrun
  have hge : s.length ≤ grownCap w s.length 0 e := by simp [grownCap, Question.cut]
  generalize hcap : grownCap w s.length 0 e = cap at hrun hge
  let cells : List Value := s.map fun b => Value.int .u8 b.toNat
  have hcell : ∀ j v, cells[j]? = some v → (w.drew.alloc (.cells (bytesRow ⟨s.toArray⟩ cap) e ((bytesRow ⟨s.toArray⟩ cap).size, (bytesRow ⟨s.toArray⟩ cap).size + 1))).cell? ⟨w.heap.size, j, none⟩ = some v := by
    intro j v hj
    have hb : (w.drew.alloc (.cells (bytesRow ⟨s.toArray⟩ cap) e ((bytesRow ⟨s.toArray⟩ cap).size, (bytesRow ⟨s.toArray⟩ cap).size + 1))).heap[w.heap.size]? = some (.cells (bytesRow ⟨s.toArray⟩ cap) e ((bytesRow ⟨s.toArray⟩ cap).size, (bytesRow ⟨s.toArray⟩ cap).size + 1)) := by
      show (w.heap.push _)[w.heap.size]? = _
      simp
    simp only [World.cell?, hb, Option.isSome_none, Bool.false_eq_true, if_false]
    have hlt : j < cells.length := by rw [List.getElem?_eq_some_iff] at hj; exact hj.1
    have : (bytesRow ⟨s.toArray⟩ cap)[j]? = cells[j]? := by
      simp only [bytesRow, cells] at hlt ⊢
      rw [Array.getElem?_append_left (by simpa using hlt)]
      simp
    rw [this]; exact hj
  obtain ⟨i1, i2⟩ := inv.drew.fresh (w := w.drew) (w' := w.drew.alloc (.cells (bytesRow ⟨s.toArray⟩ cap) e ((bytesRow ⟨s.toArray⟩ cap).size, (bytesRow ⟨s.toArray⟩ cap).size + 1)))
    (fun off => cells[off]?) (Array.size_push ..) (by
      intro c hc
      show (w.heap.push _)[c]? = w.heap[c]?
      rw [Array.getElem?_push, if_neg (Nat.ne_of_lt (show c < w.heap.size from hc))]) (fun off v h => hcell off v h) rfl rfl rfl
  refine ⟨_, _, _, hrun, ?_, i1, (Step.drew G S w).trans i2⟩
  simp only [Rel, List.length_map]
  refine ⟨_, _, rfl, hge, trivial, ?_⟩
  right
  refine ⟨w.heap.size, 0, rfl, ?_, .inr ?_⟩
  rotate_left
  · show G.lent w.heap.size = false
    cases hq : G.lent w.heap.size
    · rfl
    · have := inv.lentlt _ hq; omega
  have : ∀ (l : List UInt8) (o : Nat), (∀ j v, (l.map fun b => Value.int .u8 b.toNat)[j]? = some v → cells[o + j]? = some v) → RowsAt (G.newMem w.drew.heap.size fun off => cells[off]?) 1 (l.map byteRow) w.heap.size o := by
    intro l
    induction l with
    | nil => intro o _; simp [RowsAt]
    | cons b l ih =>
      intro o h
      simp only [List.map_cons, byteRow, RowsAt]
      refine ⟨rfl, ?_, ?_⟩
      · simp only [CellsAt]
        refine ⟨⟨.int .u8 b.toNat, ?_, rfl, rfl⟩, trivial⟩
        simp only [Gh.newMem, World.drew, if_pos]
        exact h 0 _ rfl
      · refine ih (o + 1) fun j v hj => ?_
        rw [show o + 1 + j = o + (j + 1) by omega]
        exact h (j + 1) v (by simpa using hj)
  exact this s 0 (fun j v hj => by rw [Nat.zero_add]; exact hj)

theorem conv_slice (inv : Inv G S w) {src dst el : TypeId} {x v : AV} {xv : Value} (hu : P.underlying src = some (.slice el)) (hu' : P.underlying dst = some .string) (hu2 : P.underlying el = some (.int .u8))
    (h : (bif sliceV x then ((rowsOf S 1 x).bind bytesOf).map .str else none) = some v) (r : Rel G x xv) : VOk P G S w (convert src dst xv) v := by
  cases hs : sliceV x
  · simp [hs] at h
  · simp only [hs, cond_true, Option.map_eq_some_iff] at h
    obtain ⟨bs, h, rfl⟩ := h
    have := bytesToString_ok (P := P) inv hs h r
    obtain ⟨rows, h1, _⟩ := Option.bind_eq_some_iff.1 h
    obtain ⟨p, cap, cs, vs, rfl, _⟩ := rows_rel inv h1 hs r
    exact .still inv (by rw [run_convert_bytes_string w src dst el p _ cap hu hu2 hu']; exact this) rfl

theorem convert_ok (inv : Inv G S w) {src dst : TypeId} {x v : AV} {xv : Value} (h : oConvert P S src dst x = some v) (r : Rel G x xv) : VOk P G S w (convert src dst xv) v := by
  unfold oConvert at h
  split at h
  · rename_i hu hu'
    simp only [Rel] at r; subst r; cases h
    exact .still inv (by simp [convert, run_underlying hu, run_underlying hu', Conv.intToInt]) rfl
  · rename_i hu hu'
    simp only [Rel] at r; subst r; cases h
    exact .still inv (by simp [convert, run_underlying hu, run_underlying hu']) rfl
  · rename_i n hu hu'
    simp only [Rel] at r; subst r
    cases hb : (decide (0 ≤ n) && decide (n < 128))
    · simp [hb] at h
    · simp [hb] at h; subst h
      simp only [Bool.and_eq_true, decide_eq_true_eq] at hb
      refine .still inv (cv := .string ⟨#[UInt8.ofNat n.toNat]⟩) ?_ rfl
      have hv : Utf8.valid n = true := by
        simp [Utf8.valid]; omega
      have : n.toNat < 128 := by omega
      simp [convert, run_underlying hu, run_underlying hu', Conv.intToString, Utf8.encode, hv, this]
  · rename_i s hu hu'
    simp only [Rel] at r; subst r
    split at h
    · rename_i hu2
      cases h
      exact stringToBytes_ok inv hu hu' hu2 s
    · cases h
  · rename_i el hu hu'
    split at h
    · rename_i hu2
      exact conv_slice inv hu hu' hu2 h r
    · cases h
  · cases h

theorem len_ok (inv : Inv G S w) {t : TypeId} {d : TypeDesc} (hu : P.underlying t = some d) {x : AV} {xv : Value} {n : Nat} (h : lenA S d x = some n) (r : Rel G x xv) (rt : TypeId) :
    (Builtin.len_ #[t] rt #[xv]).run P w = .ok (.int .i64 n) w := by
  unfold lenA at h
  split at h
  · rename_i s
    simp only [Rel] at r; subst r; cases h
    have : ByteArray.size ⟨s.toArray⟩ = s.length := by simp [ByteArray.size]
    simp [Builtin.len_, run_underlying hu, goInt, this]
  · simp only [Rel] at r; obtain ⟨p, c, rfl, _⟩ := r; cases h
    simp [Builtin.len_, run_underlying hu, goInt]
  · simp only [Rel] at r; cases h
    split at r
    · obtain ⟨c, rfl, _⟩ := r; simp [Builtin.len_, run_underlying hu, goInt]
    · obtain ⟨_, c, rfl, _⟩ := r; simp [Builtin.len_, run_underlying hu, goInt]
    · exact r.elim
  · simp only [Rel] at r; subst r; cases h
    simp [Builtin.len_, run_underlying hu, goInt]
  · rename_i o
    split at h
    · rename_i es k ho
      cases h
      simp only [Rel] at r
      cases hg : G.obj o with
      | un => simp [hg] at r
      | dead => rw [inv.dead o hg] at ho; cases ho
      | «at» b =>
        simp only [hg] at r; subst r
        obtain ⟨x, hx, ox⟩ := inv.obj o b hg
        rw [ho] at hx; cases hx
        obtain ⟨ms, hb, hr⟩ := ox
        have : es.length = ms.size := by
          have : ∀ {es : List (AV × AV × Nat)} {l : List MapEntry}, RelE G es l → es.length = l.length := by
            intro es
            induction es with
            | nil => intro l h; simp only [RelE] at h; subst h; rfl
            | cons e es ih => intro l h; obtain ⟨m, ms, rfl, _, _, _, h⟩ := h; simp [ih h]
          simpa using this hr
        simp [Builtin.len_, run_underlying hu, goInt, run_getObj_map w b ms k hb, this]
    · cases h
  · cases h
    simp [Builtin.len_, run_underlying hu, goInt]
  · cases h

theorem typeAssert_ok {x v : AV} {xv : Value} {xt asserted : TypeId} {ok : Bool} (h : oTypeAssert P x asserted ok = some v) (r : Rel G x xv) :
    ∃ u, (Instr.typeAssert xv xt asserted ok).run P w = .ok u w ∧ Rel G v u := by
  unfold oTypeAssert at h
  cases hu : P.underlying asserted with
  | none => simp [hu] at h
  | some d =>
    have zero : ∀ z, okT P asserted = true → pack (isAggT P asserted) (zeroT P asserted) = some z → ∃ u, (zeroValue asserted).run P w = .ok u w ∧ Rel G z u := by
      intro z hok hz
      obtain ⟨i, zv, hi, hz', _, _⟩ := okT_spec hok
      exact ⟨zv, run_zeroValue' hi hz', zero_rel hok hi hz' hz⟩
    rw [hu] at h
    cases d
    case interface => simp at h
    all_goals
      simp only at h
      split at h
      · rename_i tt x0
        simp only [Rel] at r
        obtain ⟨u, rfl, r⟩ := r
        cases hb : Nat.beq tt asserted
        · simp only [hb, cond_false] at h
          cases hc : (ok && okT P asserted)
          · simp [hc] at h
          · simp only [hc, cond_true, Option.map_eq_some_iff] at h
            obtain ⟨z, hz, rfl⟩ := h
            simp only [Bool.and_eq_true] at hc
            obtain ⟨rfl, hok⟩ := hc
            obtain ⟨zu, h1, h2⟩ := zero z hok hz
            have hne : ¬ tt = asserted := by intro q; subst q; simp at hb
            exact ⟨.tuple #[zu, .bool false], by simp [Instr.typeAssert, run_underlying hu, hne, h1], _, rfl, _, _, rfl, h2, _, _, rfl, rfl, rfl⟩
        · simp only [hb, cond_true] at h
          have : tt = asserted := by simpa using hb
          subst this
          cases ok
          · simp at h; subst h
            exact ⟨u, by simp [Instr.typeAssert, run_underlying hu], r⟩
          · simp at h; subst h
            exact ⟨.tuple #[u, .bool true], by simp [Instr.typeAssert, run_underlying hu], _, rfl, _, _, rfl, r, _, _, rfl, rfl, rfl⟩
      · simp only [Rel] at r; subst r
        cases hc : (ok && okT P asserted)
        · simp [hc] at h
        · simp only [hc, cond_true, Option.map_eq_some_iff] at h
          obtain ⟨z, hz, rfl⟩ := h
          simp only [Bool.and_eq_true] at hc
          obtain ⟨rfl, hok⟩ := hc
          obtain ⟨zu, h1, h2⟩ := zero z hok hz
          exact ⟨.tuple #[zu, .bool false], by simp [Instr.typeAssert, run_underlying hu, h1], _, rfl, _, _, rfl, h2, _, _, rfl, rfl, rfl⟩
      · cases h

theorem lookup_ok (inv : Inv G S w) {t : TypeId} {m k v : AV} {mv kv : Value} {ok : Bool} (h : oLookup P t S m k ok = some v) (rm : Rel G m mv) (rk : Rel G k kv) :
    ∃ u, (Instr.lookup t mv kv ok).run P w = .ok u w ∧ Rel G v u := by
  unfold oLookup at h
  split at h
  · rename_i kt et hu
    cases hb : (keyOk P kt k && okT P et)
    · simp [hb] at h
    · simp only [hb, cond_true, Option.bind_eq_some_iff] at h
      simp only [Bool.and_eq_true] at hb
      obtain ⟨r, h1, h2⟩ := h
      have zero : ∀ z, pack (isAggT P et) (zeroT P et) = some z → ∃ u, (zeroValue et).run P w = .ok u w ∧ Rel G z u := by
        intro z hz
        obtain ⟨i, zv, hi, hz', _, _⟩ := okT_spec hb.2
        exact ⟨zv, run_zeroValue' hi hz', zero_rel hb.2 hi hz' hz⟩
      have hck := fun em => checkKey_rel (P := P) (G := G) w em hb.1 rk
      have miss : ∀ (es : Array MapEntry), (Instr.findKey kt kv es.toList).run P w = .ok none w → r = none →
          ((mv = .map none ∧ es = #[]) ∨ ∃ b c, mv = .map (some b) ∧ w.heap[b]? = some (.map es c)) → ∃ u, (Instr.lookup t mv kv ok).run P w = .ok u w ∧ Rel G v u := by
        intro es hf hr hv
        subst hr
        cases ok
        · obtain ⟨u, z1, z2⟩ := zero v h2
          refine ⟨u, ?_, z2⟩
          rcases hv with ⟨rfl, rfl⟩ | ⟨b, c, rfl, hbb⟩
          · simp at hf; simp [Instr.lookup, run_underlying hu, hck, hf, z1]
          · simp [Instr.lookup, run_underlying hu, run_getObj_map w b es c hbb, hck, hf, z1]
        · simp only [Option.map_eq_some_iff] at h2
          obtain ⟨z, h2, rfl⟩ := h2
          obtain ⟨u, z1, z2⟩ := zero z h2
          refine ⟨.tuple #[u, .bool false], ?_, _, rfl, _, _, rfl, z2, _, _, rfl, rfl, rfl⟩
          rcases hv with ⟨rfl, rfl⟩ | ⟨b, c, rfl, hbb⟩
          · simp at hf; simp [Instr.lookup, run_underlying hu, hck, hf, z1]
          · simp [Instr.lookup, run_underlying hu, run_getObj_map w b es c hbb, hck, hf, z1]
      cases m <;> simp only at h1 <;> try (cases h1; done)
      case nilmap =>
        simp only [Rel] at rm; subst rm
        obtain ⟨r', q1, q2⟩ := findKey_rel (P := P) (G := G) w hb.1 rk (es := []) (ms := []) rfl (r := none) rfl
        simp only [Found] at q2; subst q2
        cases h1
        exact miss #[] q1 rfl (.inl ⟨rfl, rfl⟩)
      case map o =>
        split at h1
        · rename_i es c ho
          simp only [Option.map_eq_some_iff] at h1
          obtain ⟨rr, h1, hr⟩ := h1
          simp only [Rel] at rm
          cases hg : G.obj o with
          | un => simp [hg] at rm
          | dead => rw [inv.dead o hg] at ho; cases ho
          | «at» b =>
            simp only [hg] at rm; subst rm
            obtain ⟨x, hx, ox⟩ := inv.obj o b hg
            rw [ho] at hx; cases hx
            obtain ⟨ms, hbb, re⟩ := ox
            obtain ⟨r', q1, q2⟩ := findKey_rel (P := P) (G := G) w hb.1 rk re h1
            cases rr with
            | none =>
              simp only [Found] at q2; subst q2
              exact miss ms q1 (by simpa using hr.symm) (.inr ⟨b, c, rfl, hbb⟩)
            | some p =>
              obtain ⟨i, e⟩ := p
              obtain ⟨me, j, _, _, _, rfl, _, rv, _⟩ := q2
              simp at hr; subst hr
              cases ok
              · simp at h2; subst h2
                exact ⟨me.val, by simp [Instr.lookup, run_underlying hu, run_getObj_map w b ms c hbb, hck, q1], rv⟩
              · simp at h2; subst h2
                exact ⟨.tuple #[me.val, .bool true], by simp [Instr.lookup, run_underlying hu, run_getObj_map w b ms c hbb, hck, q1], _, rfl, _, _, rfl, rv, _, _, rfl, rfl, rfl⟩
        · cases h1
  · cases h

end
end Go.Sac
