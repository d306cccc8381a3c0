/- Operations that leave the state alone, one by one. -/
import Derived.Test.YtippafigppeblaaGreatSacE
import Derived.Laws.BytesString
namespace Go.Sac
set_option linter.unusedVariables false
set_option linter.unusedSimpArgs false
open Go

section
variable {P : Program} {G : Gh} {S : St} {w : World} (inv : Inv G S w)

theorem okT_spec {t : TypeId} (h : okT P t = true) : ∃ i z, P.info? t = some i ∧ i.zero = some z ∧ z.cells.size = P.cellsOf t ∧ i.size = P.cellsOf t := by
  simp only [okT, Bool.and_eq_true] at h
  obtain ⟨⟨⟨h1, h2⟩, h3⟩, h4⟩ := h
  obtain ⟨i, hi⟩ := isSome_get h1
  simp only [hi, Option.bind_some] at h2 h3
  obtain ⟨z, hz⟩ := isSome_get h2
  simp [hz] at h3
  exact ⟨i, z, hi, hz, h3.1, by simp [Program.cellsOf, hi]⟩

theorem okT_scal {t : TypeId} (h : okT P t = true) : (zeroT P t).all scal = true := by
  simp only [okT, Bool.and_eq_true] at h
  exact h.2

theorem okT_agg {t : TypeId} (h : okT P t = true) {i : TypeInfo} {z : Value} (hi : P.info? t = some i) (hz : i.zero = some z) : isAggV z = isAggT P t := by
  simp only [okT, Bool.and_eq_true] at h
  obtain ⟨⟨⟨h1, h2⟩, h3⟩, h4⟩ := h
  simp [hi, hz] at h3
  exact h3.2

theorem ofConsts_rel (G : Gh) : ∀ (l : List Value), RelL G (l.map ofConst) l
  | [] => rfl
  | v :: l => ⟨v, l, rfl, ofConst_rel G v, ofConsts_rel G l⟩

theorem zeroT_rel {t : TypeId} {i : TypeInfo} {z : Value} (hi : P.info? t = some i) (hz : i.zero = some z) : RelL G (zeroT P t) z.cells.toList := by
  simp only [zeroT, hi, Option.bind_some, hz, Option.map_some, Option.getD_some]
  exact ofConsts_rel G _

theorem zero_rel {t : TypeId} (h : okT P t = true) {i : TypeInfo} {z : Value} (hi : P.info? t = some i) (hz : i.zero = some z) {v : AV} (hp : pack (isAggT P t) (zeroT P t) = some v) : Rel G v z := by
  have hr := zeroT_rel (G := G) hi hz
  have ha := okT_agg h hi hz
  cases hg : isAggT P t
  · rw [hg] at ha hp
    simp only [pack] at hp
    split at hp
    · rename_i c hc
      rw [hc] at hr
      obtain ⟨u, us, e, r1, r2⟩ := hr
      cases hp
      have : z.cells = #[z] := by cases z <;> simp [isAggV] at ha <;> rfl
      rw [this] at e
      simp at e
      rw [e.1]; exact r1
    · cases hp
  · rw [hg] at ha hp
    simp only [pack, Option.some.injEq] at hp; subst hp
    cases z <;> simp [isAggV] at ha
    exact ⟨_, rfl, hr⟩

theorem run_zeroValue' {t : TypeId} {i : TypeInfo} {z : Value} (hi : P.info? t = some i) (hz : i.zero = some z) : (zeroValue t).run P w = .ok z w := by
  simp [zeroValue, run_typeInfo w hi, hz]

theorem info_under {t : TypeId} {i : TypeInfo} {d : TypeDesc} (hi : P.info? t = some i) (h : i.desc = d) (hn : ∀ n u, d ≠ .named n u) : P.underlying t = some d := by
  simp only [Program.underlying, hi]
  split
  · rename_i e; simp at e; rw [e] at h; exact (hn _ _ h.symm).elim
  · rename_i e; simp at e; rw [← h, e]
  · rename_i e; cases e

theorem mapM_sizes (fs : Array Field) (h : ∀ f ∈ fs.toList, (P.info? f.type).isSome = true) :
    (fs.mapM (fun f => (do pure (f.offset, ← sizeOf f.type) : Sem (Nat × Nat)))).run P w = .ok (fs.map fun f => (f.offset, P.cellsOf f.type)) w := by
  rw [Array.mapM_eq_mapM_toList]
  have : ∀ (l : List Field), (∀ f ∈ l, (P.info? f.type).isSome = true) → (l.mapM (fun f => (do pure (f.offset, ← sizeOf f.type) : Sem (Nat × Nat)))).run P w = .ok (l.map fun f => (f.offset, P.cellsOf f.type)) w := by
    intro l hl
    induction l with
    | nil => simp
    | cons f l ih =>
      obtain ⟨i, hi⟩ := isSome_get (hl f (by simp))
      simp only [List.mapM_cons, Sem.run_bind, run_sizeOf w hi, Result.andThen_ok, ih fun g hg => hl g (by simp [hg]), Sem.run_pure, List.map_cons]
  have := this fs.toList h
  simp only [Sem.run_map, this, Result.andThen_ok]
  congr 1
  apply Array.ext'
  simp

theorem build_ok {t : TypeId} {parts : List (Nat × AV)} {vparts : Array (Nat × Value)} {v : AV} (h : oBuild P t parts = some v) (hi : parts.map (·.1) = vparts.toList.map (·.1))
    (hr : RelL G (parts.map (·.2)) (vparts.toList.map (·.2))) : ∃ cv, (Instr.build t vparts).run P w = .ok cv w ∧ Rel G v cv := by
  simp only [oBuild] at h
  cases ho : okT P t
  · simp [ho] at h
  · simp only [ho, cond_true] at h
    obtain ⟨i, z, hinfo, hz, hzs, his⟩ := okT_spec ho
    split at h
    · rename_i fs hu
      cases hb : fs.toList.all fun f => (P.info? f.type).isSome
      · simp [hb] at h
      · simp only [hb, cond_true, Option.map_eq_some_iff] at h
        obtain ⟨cs, h, rfl⟩ := h
        obtain ⟨us, q1, q2⟩ := fill_rel h (zeroT_rel hinfo hz) hi hr
        refine ⟨.agg us, ?_, us, rfl, q2⟩
        simp only [Instr.build, Sem.run_bind, run_zeroValue' hinfo hz, Result.andThen_ok, run_underlying hu, mapM_sizes fs (List.all_eq_true.1 hb)]
        have e : (fun i : Nat => (Array.map (fun f : Field => (f.offset, P.cellsOf f.type)) fs)[i]?) = fun i : Nat => (fs[i]?).map fun f : Field => (f.offset, sizeT P f.type) := by
          funext i; simp [sizeT]
        rw [e, q1]
        rfl
    · rename_i n e hu
      cases hb : (P.info? e).isSome
      · simp [hb] at h
      · simp only [hb, cond_true, Option.map_eq_some_iff] at h
        obtain ⟨cs, h, rfl⟩ := h
        obtain ⟨us, q1, q2⟩ := fill_rel h (zeroT_rel hinfo hz) hi hr
        obtain ⟨ie, hie⟩ := isSome_get hb
        refine ⟨.agg us, ?_, us, rfl, q2⟩
        simp only [Instr.build, Sem.run_bind, run_zeroValue' hinfo hz, Result.andThen_ok, run_underlying hu, run_sizeOf w hie]
        simp only [sizeT] at q1
        rw [q1]
        rfl
    · cases h

theorem fieldOf_spec {t : TypeId} {i : Nat} {f : Field} (h : fieldOf P t i = some f) : ∃ fs, P.underlying t = some (.struct fs) ∧ fs[i]? = some f := by
  simp only [fieldOf] at h
  split at h
  · rename_i fs hu; exact ⟨fs, hu, h⟩
  · cases h

theorem cellsOf_info {t : TypeId} (h : P.cellsOf t ≠ 0) : ∃ i, P.info? t = some i := by
  simp only [Program.cellsOf] at h
  cases hi : P.info? t with
  | none => simp [hi] at h
  | some i => exact ⟨i, rfl⟩

theorem addr_spot {x : Addr} (h : x.spot = none) (n : Nat) : (x.add n).spot = none := by unfold Addr.add; split <;> simp_all

theorem fieldAddr_ok {t : TypeId} {i : Nat} {f : Field} {a v : AV} {cv : Value} (hf : fieldOf P t i = some f) (h : oFieldAddr f.offset (sizeT P f.type) a = some v) (r : Rel G a cv) :
    ∃ u, (Instr.fieldAt t cv i).run P w = .ok u w ∧ Rel G v u := by
  obtain ⟨fs, hu, hfs⟩ := fieldOf_spec hf
  have key : ∀ b off, cv = .pointer (some ⟨b, off, none⟩) → P.cellsOf f.type ≠ 0 → (Instr.fieldAt t cv i).run P w = .ok (.pointer (some ⟨b, off + f.offset, none⟩)) w := by
    rintro b off rfl hz
    obtain ⟨inf, hi⟩ := cellsOf_info hz
    simp [Instr.fieldAt, run_underlying hu, hfs, Instr.sureAddr, fieldPlace, run_sizeOf w hi, hz, add_lit]
  cases hz : P.cellsOf f.type with
  | zero => simp [oFieldAddr, sizeT, hz] at h
  | succ n =>
    have hz : P.cellsOf f.type ≠ 0 := by omega
    simp only [sizeT, show P.cellsOf f.type = n + 1 from by assumption] at h
    cases a <;> simp only [oFieldAddr] at h <;> try (cases h; done)
    case ptr o b =>
      simp at h; subst h
      simp only [Rel] at r ⊢
      cases hg : G.obj o with
      | un => simp [hg] at r
      | «at» bb =>
        simp only [hg] at r ⊢
        exact ⟨_, key bb b r hz, rfl⟩
      | dead =>
        simp only [hg] at r ⊢
        obtain ⟨x, rfl, hsp⟩ := r
        obtain ⟨inf, hi⟩ := cellsOf_info hz
        refine ⟨.pointer (some (x.add f.offset)), ?_, _, rfl, addr_spot hsp _⟩
        simp [Instr.fieldAt, run_underlying hu, hfs, Instr.sureAddr, fieldPlace, run_sizeOf w hi, hz]
    case eptr row b =>
      simp at h; subst h
      simp only [Rel] at r ⊢
      obtain ⟨bb, base, rfl, k⟩ := r
      exact ⟨_, key bb (base + b) rfl hz, bb, base, by rw [Nat.add_assoc], k⟩

theorem field_ok {t : TypeId} {i : Nat} {f : Field} {a v : AV} {cv : Value} (hf : fieldOf P t i = some f) (hs : (P.underlying f.type).isSome = true) (h : oField f.offset (sizeT P f.type) (isAggT P f.type) a = some v) (r : Rel G a cv) :
    ∃ u, (Instr.field t cv i).run P w = .ok u w ∧ Rel G v u := by
  obtain ⟨fs, hu, hfs⟩ := fieldOf_spec hf
  obtain ⟨d, hd⟩ := isSome_get hs
  cases a <;> simp only [oField] at h <;> try (cases h; done)
  rename_i cs
  simp only [Rel] at r
  obtain ⟨vs, rfl, r⟩ := r
  simp only [Option.bind_eq_some_iff] at h
  obtain ⟨c, h1, h2⟩ := h
  obtain ⟨hl, rfl⟩ := cut_eq h1
  obtain ⟨p1, p2⟩ := pack_rel hd h2 ((r.drop f.offset).take (sizeT P f.type))
  have := r.length
  refine ⟨_, ?_, p1⟩
  simp only [Instr.field, Sem.run_bind, run_underlying hu, Result.andThen_ok, hfs, asAgg]
  have := run_part' w hd vs.toList f.offset (fun q => by
    obtain ⟨u, hu'⟩ := p2 q
    have hh := congrArg List.length hu'
    simp at hh
    simp only [sizeT] at hl hh
    simp at this ⊢
    omega)
  simpa [sizeT] using this

theorem idx_spec {i : AV} {iv : Value} {len n : Nat} (h : idx i len = some n) (r : Rel G i iv) : ∃ k z, iv = .int k z ∧ 0 ≤ z ∧ z < (len : Int) ∧ z.toNat = n ∧ n < len := by
  cases i <;> simp only [idx] at h <;> try (cases h; done)
  rename_i k z
  simp only [Rel] at r; subst r
  cases hb : (decide (0 ≤ z) && decide (z < (len : Int)))
  · simp [hb] at h
  · simp only [hb, cond_true, Option.some.injEq] at h
    simp only [Bool.and_eq_true, decide_eq_true_eq] at hb
    exact ⟨k, z, rfl, hb.1, hb.2, h, by omega⟩

theorem RowsAt.get {G : Gh} {sz : Nat} : ∀ {rows : List AV} {b off : Nat}, RowsAt G sz rows b off → ∀ {n : Nat} {r : AV}, rows[n]? = some r → ∃ cs, r = .agg cs ∧ cs.length = sz ∧ CellsAt G cs b (off + n * sz)
  | [], _, _, _, n, r, h => by simp at h
  | .agg cs :: rs, b, off, k, 0, r, h => by
    simp at h; subst h
    simp only [RowsAt] at k
    exact ⟨cs, rfl, k.1, by simpa using k.2.1⟩
  | .agg cs :: rs, b, off, k, n + 1, r, h => by
    simp only [RowsAt] at k
    obtain ⟨c, h1, h2, h3⟩ := k.2.2.get (n := n) (by simpa using h)
    exact ⟨c, h1, h2, by rw [Nat.succ_mul, Nat.add_comm (n * sz) sz, ← Nat.add_assoc]; exact h3⟩
  | .bool _ :: _, _, _, k, _, _, _ | .int .. :: _, _, _, k, _, _, _ | .str _ :: _, _, _, k, _, _, _ | .ptr .. :: _, _, _, k, _, _, _ | .nilptr :: _, _, _, k, _, _, _ | .eptr .. :: _, _, _, k, _, _, _ | .lst .. :: _, _, _, k, _, _, _
  | .sl .. :: _, _, _, k, _, _, _ | .map _ :: _, _, _, k, _, _, _ | .nilmap :: _, _, _, k, _, _, _ | .func .. :: _, _, _, k, _, _, _ | .yld _ :: _, _, _, k, _, _, _ | .nilfunc :: _, _, _, k, _, _, _ | .iface .. :: _, _, _, k, _, _, _
  | .niliface :: _, _, _, k, _, _, _ | .tup _ :: _, _, _, k, _, _, _ | .junk :: _, _, _, k, _, _, _ => by simp [RowsAt] at k

theorem run_indexAt {t el : TypeId} (hu : P.underlying t = some (.slice el)) {inf : TypeInfo} (hi : P.info? el = some inf) {b off len cap : Nat} {k : IntKind} {z : Int} (h0 : 0 ≤ z) (h1 : z < (len : Int)) :
    (Instr.indexAt t (.slice (some ⟨b, off, none⟩) len cap) (.int k z)).run P w = .ok (.pointer (some ⟨b, off + z.toNat * P.cellsOf el, none⟩)) w := by
  simp [Instr.indexAt, asIntOf, run_underlying hu, h0, h1, run_sizeOf w hi, add_lit]

theorem indexAddrS_ok {t el : TypeId} (hu : P.underlying t = some (.slice el)) (he : (P.info? el).isSome = true) {x i v : AV} {xv iv : Value} (h : oIndexAddrS (sizeT P el) x i = some v) (rx : Rel G x xv) (ri : Rel G i iv) :
    ∃ u, (Instr.indexAt t xv iv).run P w = .ok u w ∧ Rel G v u := by
  obtain ⟨inf, hi⟩ := isSome_get he
  cases x <;> simp only [oIndexAddrS] at h <;> try (cases h; done)
  case lst st sz rows =>
    simp only [Option.bind_eq_some_iff] at h
    obtain ⟨n, hn, h⟩ := h
    obtain ⟨k, z, rfl, h0, h1, hz, hlt⟩ := idx_spec hn ri
    simp only [Rel] at rx
    obtain ⟨a, cap, rfl, _, _, rx⟩ := rx
    rcases rx with ⟨rfl, _⟩ | ⟨b, off, rfl, rx⟩
    · simp at hlt
    · split at h
      · rename_i cs hr
        obtain ⟨cs', q1, q2, q3⟩ := rx.1.get hr
        cases q1
        cases hb : Nat.beq (sizeT P el) sz
        · simp [hb] at h
        · simp only [hb, cond_true, Option.some.injEq] at h
          subst h
          have hb : sizeT P el = sz := by simpa using hb
          refine ⟨_, run_indexAt hu hi h0 h1, b, off + n * sz, ?_, q3⟩
          rw [hz, ← hb]; rfl
      · cases h
  case sl o off len cap sz =>
    simp only [Option.bind_eq_some_iff] at h
    obtain ⟨n, hn, h⟩ := h
    obtain ⟨k, z, rfl, h0, h1, hz, hlt⟩ := idx_spec hn ri
    cases hb : Nat.beq (sizeT P el) sz
    · simp [hb] at h
    · simp only [hb, cond_true, Option.some.injEq] at h
      subst h
      simp only [Rel] at rx ⊢
      cases hg : G.obj o with
      | un => simp [hg] at rx
      | «at» b =>
        simp only [hg] at rx ⊢
        obtain ⟨c, rfl, _, _⟩ := rx
        exact ⟨_, run_indexAt hu hi h0 h1, by rw [hz]; rfl⟩
      | dead =>
        simp only [hg] at rx ⊢
        obtain ⟨a, c, rfl, hlc, hsp⟩ := rx
        refine ⟨.pointer (some (a.add (z.toNat * P.cellsOf el))), ?_, _, rfl, addr_spot hsp _⟩
        simp [Instr.indexAt, asIntOf, run_underlying hu, h0, h1, run_sizeOf w hi]

theorem indexAddrA_ok {t el : TypeId} {m : Nat} (hu : P.underlying t = some (.array m el)) (he : (P.info? el).isSome = true) {x i v : AV} {xv iv : Value} (h : oIndexAddrA m (sizeT P el) x i = some v) (rx : Rel G x xv) (ri : Rel G i iv) :
    ∃ u, (Instr.indexAt t xv iv).run P w = .ok u w ∧ Rel G v u := by
  obtain ⟨inf, hi⟩ := isSome_get he
  cases x <;> simp only [oIndexAddrA] at h <;> try (cases h; done)
  case ptr o off =>
    simp only [Option.bind_eq_some_iff] at h
    obtain ⟨n, hn, h⟩ := h
    obtain ⟨k, z, rfl, h0, h1, hz, hlt⟩ := idx_spec hn ri
    simp at h; subst h
    simp only [Rel] at rx ⊢
    cases hg : G.obj o with
    | un => simp [hg] at rx
    | «at» b =>
      simp only [hg] at rx ⊢
      subst rx
      refine ⟨_, ?_, rfl⟩
      simp [Instr.indexAt, asIntOf, run_underlying hu, Instr.sureAddr, h0, h1, run_sizeOf w hi, add_lit, hz, sizeT]
    | dead =>
      simp only [hg] at rx ⊢
      obtain ⟨a, rfl, hsp⟩ := rx
      refine ⟨.pointer (some (a.add (z.toNat * P.cellsOf el))), ?_, _, rfl, addr_spot hsp _⟩
      simp [Instr.indexAt, asIntOf, run_underlying hu, Instr.sureAddr, h0, h1, run_sizeOf w hi]
  case eptr row off =>
    simp only [Option.bind_eq_some_iff] at h
    obtain ⟨n, hn, h⟩ := h
    obtain ⟨k, z, rfl, h0, h1, hz, hlt⟩ := idx_spec hn ri
    simp at h; subst h
    simp only [Rel] at rx ⊢
    obtain ⟨b, base, rfl, rx⟩ := rx
    refine ⟨_, ?_, b, base, rfl, rx⟩
    simp [Instr.indexAt, asIntOf, run_underlying hu, Instr.sureAddr, h0, h1, run_sizeOf w hi, add_lit, hz, sizeT, Nat.add_assoc]

theorem indexStr_ok {t : TypeId} (hu : P.underlying t = some .string) {x i v : AV} {xv iv : Value} (h : oIndexStr x i = some v) (rx : Rel G x xv) (ri : Rel G i iv) :
    ∃ u, (Instr.index t xv iv).run P w = .ok u w ∧ Rel G v u := by
  cases x <;> simp only [oIndexStr] at h <;> try (cases h; done)
  rename_i s
  simp only [Option.bind_eq_some_iff, Option.map_eq_some_iff] at h
  obtain ⟨n, hn, c, hc, rfl⟩ := h
  obtain ⟨k, z, rfl, h0, h1, hz, hlt⟩ := idx_spec hn ri
  simp only [Rel] at rx; subst rx
  refine ⟨_, ?_, rfl⟩
  have hb : (⟨s.toArray⟩ : ByteArray)[z.toNat]? = some c := by
    rw [hz, ByteArray.getElem?_lt' _ _ (by simpa [ByteArray.size] using hlt)]
    rw [List.getElem?_eq_some_iff] at hc
    obtain ⟨_, rfl⟩ := hc
    rfl
  simp [Instr.index, asIntOf, run_underlying hu, h0, hb]

theorem indexArr_ok {t el : TypeId} {m : Nat} (hu : P.underlying t = some (.array m el)) (he : (P.underlying el).isSome = true) {x i v : AV} {xv iv : Value} (h : oIndexArr m (sizeT P el) (isAggT P el) x i = some v) (rx : Rel G x xv) (ri : Rel G i iv) :
    ∃ u, (Instr.index t xv iv).run P w = .ok u w ∧ Rel G v u := by
  obtain ⟨d, hd⟩ := isSome_get he
  cases x <;> simp only [oIndexArr] at h <;> try (cases h; done)
  rename_i cs
  simp only [Rel] at rx
  obtain ⟨vs, rfl, rx⟩ := rx
  simp only [Option.bind_eq_some_iff] at h
  obtain ⟨n, hn, c, h1, h2⟩ := h
  obtain ⟨k, z, rfl, h0, h1', hz, hlt⟩ := idx_spec hn ri
  obtain ⟨hl, rfl⟩ := cut_eq h1
  obtain ⟨p1, p2⟩ := pack_rel hd h2 ((rx.drop (n * sizeT P el)).take (sizeT P el))
  have hlen := rx.length
  refine ⟨_, ?_, p1⟩
  have := run_part' w hd vs.toList (n * sizeT P el) (fun q => by
    obtain ⟨u, hu'⟩ := p2 q
    have hh := congrArg List.length hu'
    simp at hh hlen ⊢
    simp only [sizeT] at hl hh ⊢
    omega)
  simp only [Instr.index, asIntOf, Sem.run_bind, Sem.run_pure, Result.andThen_ok, run_underlying hu, h0, h1', and_self, if_true, run_sizeOf' w hd, hz]
  simpa [sizeT] using this

theorem extract_ok {x v : AV} {xv : Value} {i : Nat} (h : (match x with | .tup vs => vs[i]? | _ => none) = some v) (rx : Rel G x xv) : ∃ u, (Instr.extract xv i).run P w = .ok u w ∧ Rel G v u := by
  cases x <;> simp only at h <;> try (cases h; done)
  simp only [Rel] at rx
  obtain ⟨vs, rfl, rx⟩ := rx
  obtain ⟨u, h1, h2⟩ := rx.get h
  exact ⟨u, by simp at h1; simp [Instr.extract, h1], h2⟩

end
end Go.Sac
