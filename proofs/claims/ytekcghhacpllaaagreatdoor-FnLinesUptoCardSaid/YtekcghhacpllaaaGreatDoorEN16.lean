/- Contracts of functions of this program, by the evaluator EN. No conditions but those that each theorem states. -/
import Derived.Test.YtekcghhacpllaaaGreatDoorEN15
/- The other operations: what is taken apart. -/
namespace Go.Proofs.EN
open Go
set_option linter.unusedVariables false
set_option linter.unusedSimpArgs false
variable {tt : TypeId → Option TI} {P : Program} {c : Ctx} {w : World} {g : Gh} {os : List Ob} {S : Nat → Prop}

/-! ### field, index -/
theorem run_part {ti : TI} {T : TypeId} {info : TypeInfo} (hi : TIok P T ti info) (vs : Array Value) (off : Nat) (h : off + ti.cells.length ≤ vs.size) (h1 : ti.uk.isAgg = false → ti.cells.length = 1) :
    (part T vs off).run P w = .ok (if ti.uk.isAgg then .agg (vs.extract off (off + ti.cells.length)) else (vs.extract off (off + ti.cells.length)).getD 0 Go.undef) w := by
  have hsize : (sizeOf T).run P w = .ok ti.cells.length w := by simp [sizeOf, typeInfo, hi.inf, hi.size]
  unfold part
  simp only [Sem.run_bind, run_isAgg hi, Result.andThen_ok]
  cases ha : ti.uk.isAgg with
  | true => simp only [if_true, Sem.run_bind, hsize, Result.andThen_ok, Sem.run_pure]
  | false =>
    have := h1 ha
    have hlt : off < vs.size := by omega
    simp [Array.getElem?_eq_getElem hlt, this, Array.getD, hlt]
    intro h0; omega
theorem op_field (hT : TTok P tt) {T U : TypeId} {fs : List (Nat × TypeId)} {ks : List CK} {by' f off : Nat} {tu : TI} {v0 : Value} {cs : List C} {cv : C} (ht : tt T = some ⟨.struct fs, ks, by'⟩) (hf : fs[f]? = some (off, U)) (hu : tt U = some tu)
    (hle : off + tu.cells.length ≤ cs.length) (hmk : mkC tu.uk.isAgg ((cs.drop off).take tu.cells.length) = some cv) (hx : RepC tt w S g os v0 (.agg cs)) :
    ∃ v, (Instr.field T v0 f).run P w = .ok v w ∧ RepC tt w S g os v cv := by
  obtain ⟨_, hi⟩ := hT _ _ ht
  obtain ⟨_, hiu⟩ := hT _ _ hu
  obtain ⟨fields, hun, hfs, _⟩ := hi.uk
  rw [← hfs] at hf
  simp only [List.getElem?_map, Option.map_eq_some_iff, Prod.mk.injEq] at hf
  obtain ⟨fld, h1, rfl, rfl⟩ := hf
  have h1 : fields[f]? = some fld := by simpa using h1
  cases hx with
  | agg _ vs hl hr =>
    have hlen : ((cs.drop fld.offset).take tu.cells.length).length = tu.cells.length := by simp; omega
    have hone : tu.uk.isAgg = false → tu.cells.length = 1 := fun ha => by have := mkC_one hmk ha; omega
    refine ⟨_, ?_, mkC_rep (vs := vs.extract fld.offset (fld.offset + tu.cells.length)) hmk (by simp; omega) (fun i hi' => ?_)⟩
    · simp only [Instr.field, Sem.run_bind, run_underlying hun, Result.andThen_ok, h1, asAgg, Sem.run_pure]
      exact run_part hiu vs fld.offset (by omega) hone
    · rw [hlen] at hi'
      have h2 := hr (fld.offset + i) (by omega)
      have e1 : (vs.extract fld.offset (fld.offset + tu.cells.length)).getD i Go.undef = vs.getD (fld.offset + i) Go.undef := by
        simp only [Array.getD_eq_getD_getElem?]
        rw [Array.getElem?_extract]
        rw [if_pos (by omega)]
      have e2 : ((cs.drop fld.offset).take tu.cells.length).getD i .undef = cs.getD (fld.offset + i) .undef := by
        simp [List.getD_eq_getElem?_getD, List.getElem?_take, hi']
      rw [e1, e2]
      exact h2
theorem op_index (hT : TTok P tt) {T : TypeId} {ks : List CK} {by' : Nat} {t : Str} {n : Int} {k : IntKind} (ht : tt T = some ⟨.str, ks, by'⟩) (h0 : 0 ≤ n) (hlt : n < (t.length : Int)) :
    (Instr.index T (.string ⟨t.toArray⟩) (.int k n)).run P w = .ok (.int .u8 ((t.getD n.toNat 0).toNat : Int)) w := by
  obtain ⟨_, hi⟩ := hT _ _ ht
  have hl : n.toNat < t.length := by omega
  have hb : (⟨t.toArray⟩ : ByteArray)[n.toNat]? = some (t.getD n.toNat 0) := by
    have hs : n.toNat < (⟨t.toArray⟩ : ByteArray).size := by rw [ba_size]; exact hl
    rw [getElem?_pos (⟨t.toArray⟩ : ByteArray) n.toNat hs]
    congr 1
    show t.toArray[n.toNat] = _
    simp [List.getD_eq_getElem?_getD, hl]
  simp [Instr.index, asIntOf, run_underlying hi.uk.1, h0, hb]

/-! ### typeAssert -/
theorem isI_inv {d : D} (h : isI d = true) : d = .nilI ∨ (∃ t x, d = .iface t x) ∨ ∃ t ds, d = .ifaceS t ds := by
  cases d with
  | nilI => exact .inl rfl
  | iface t x => exact .inr (.inl ⟨t, x, rfl⟩)
  | ifaceS t ds => exact .inr (.inr ⟨t, ds, rfl⟩)
  | _ => cases h
theorem zero_one {ti : TI} {T : TypeId} {info : TypeInfo} {k : CK} (hi : TIok P T ti info) (hk : ti.cells = [k]) (ho : k ≠ .other) (ha : ti.uk.isAgg = false) : info.zero = some (zeroV k) := by
  obtain ⟨zv, hz, hsz, hc⟩ := hi.zero
  have h1 := (hc 0 k (by simp [hk])).1 ho
  have h2 := one_cells (hi.zone ha zv hz)
  rw [h2] at h1
  simp at h1
  rw [hz, h1]
theorem beq_ne {t T : Nat} (h : t ≠ T) : Nat.beq t T = false := by
  cases hq : Nat.beq t T with
  | false => rfl
  | true => exact absurd (Nat.eq_of_beq_eq_true hq) h
theorem kCells_len : ∀ (ks : List CK) (ds : List D) (j : Nat), (kCells ks ds j).length = ks.length
  | [], _, _ => rfl
  | _ :: ks, ds, j => by simp [kCells, kCells_len ks]
theorem kCells_get : ∀ (ks : List CK) (ds : List D) (j i : Nat) (k : CK), ks[i]? = some k → (kCells ks ds j).getD i .undef = .d (k.norm (ds.getD (j + i) .z))
  | [], _, _, _, _, h => by simp at h
  | k0 :: ks, ds, j, 0, k, h => by simp at h; subst h; simp [kCells]
  | k0 :: ks, ds, j, i + 1, k, h => by
    have := kCells_get ks ds (j + 1) i k (by simpa using h)
    simp only [kCells, List.getD_cons_succ, this]
    rw [show j + 1 + i = j + (i + 1) by omega]
theorem op_assert (hT : TTok P tt) {E : Env} (hE : E.B.tt = tt) {T U : TypeId} {ok : Bool} {vx : Value} {cx : C} {Kv : C → R} (h : evalAssert E T ok cx Kv)
    (hx : RepC tt w S g os vx cx) : ∃ v cv, (Instr.typeAssert vx U T ok).run P w = .ok v w ∧ RepC tt w S g os v cv ∧ Kv cv := by
  subst hE
  have tupC : ∀ {v1 v2 : Value} {c1 : C} {b : Bool}, RepC E.B.tt w S g os v1 c1 → v2 = .bool b → RepC E.B.tt w S g os (.tuple #[v1, v2]) (.tuple [c1, .d (.bool b)]) := by
    intro v1 v2 c1 b r1 r2
    subst r2
    refine .tuple _ _ rfl fun i hi => ?_
    match i, hi with
    | 0, _ => exact r1
    | 1, _ => exact .d _ _ (.bool _)
  have tup : ∀ {v1 v2 : Value} {d1 : D} {b : Bool}, Rep E.B.tt w S v1 d1 → v2 = .bool b → RepC E.B.tt w S g os (.tuple #[v1, v2]) (.tuple [.d d1, .d (.bool b)]) := fun r1 r2 => tupC (.d _ _ r1) r2
  unfold evalAssert at h
  split at h
  · rename_i ks b d h1
    obtain ⟨hd, h⟩ := h
    have hd := isI_inv hd
    have hx := hx.d_inv
    obtain ⟨info, i1⟩ := hT _ _ h1
    have hu : P.underlying T = some .string := i1.uk.1
    have hcells : ks = [.str] := i1.uk.2
    have hz := zero_one (k := .str) i1 hcells (by simp) rfl
    have hzr : Rep E.B.tt w S (.string ⟨#[]⟩) (.str []) := .str [] (by simp)
    rcases hd with rfl | ⟨t, x, rfl⟩ | ⟨t, ds, rfl⟩
    · cases hx
      refine ⟨_, _, ?_, tup (b := false) hzr rfl, h⟩
      simp [Instr.typeAssert, run_underlying hu, zeroValue, typeInfo, i1.inf, hz, zeroV]
    · cases hx with
      | iface _ v _ ti k ht hc hk ha hf hr =>
        by_cases htT : t = T
        · subst htT
          rw [h1] at ht
          cases ht
          simp only [hcells, List.cons.injEq, and_true] at hc
          subst hc
          obtain ⟨l, rfl⟩ := hf
          have hle := hr.str_le
          obtain rfl := hr.str_inv
          refine ⟨_, _, ?_, tup (b := true) (.str l hle) rfl, ?_⟩
          · simp [Instr.typeAssert, run_underlying hu]
          · simpa [ifS, ifIs, getS] using h
        · have hb := beq_ne htT
          refine ⟨_, _, ?_, tup (b := false) hzr rfl, ?_⟩
          · simp [Instr.typeAssert, run_underlying hu, htT, zeroValue, typeInfo, i1.inf, hz, zeroV]
          · simpa [ifS, ifIs, hb] using h
    · cases hx with
      | ifaceS _ vs _ ti ht hk ha hf hl hr =>
        by_cases htT : t = T
        · subst htT
          rw [h1] at ht
          cases ht
          cases ha
        · have hb := beq_ne htT
          refine ⟨_, _, ?_, tup (b := false) hzr rfl, ?_⟩
          · simp [Instr.typeAssert, run_underlying hu, htT, zeroValue, typeInfo, i1.inf, hz, zeroV]
          · simpa [ifS, ifIs, hb] using h
  · rename_i kk ks b d h1
    obtain ⟨hd, h⟩ := h
    have hd := isI_inv hd
    have hx := hx.d_inv
    obtain ⟨info, i1⟩ := hT _ _ h1
    have hu : P.underlying T = some (.int kk) := i1.uk.1
    have hcells : ks = [.int kk] := i1.uk.2
    have hz := zero_one (k := .int kk) i1 hcells (by simp) rfl
    rcases hd with rfl | ⟨t, x, rfl⟩ | ⟨t, ds, rfl⟩
    · cases hx
      refine ⟨_, _, ?_, tup (b := false) (.int kk 0) rfl, h⟩
      simp [Instr.typeAssert, run_underlying hu, zeroValue, typeInfo, i1.inf, hz, zeroV]
    · cases hx with
      | iface _ v _ ti k ht hc hk ha hf hr =>
        by_cases htT : t = T
        · subst htT
          rw [h1] at ht
          cases ht
          simp only [hcells, List.cons.injEq, and_true] at hc
          subst hc
          obtain ⟨l, rfl⟩ := hf
          obtain rfl := hr.int_inv
          refine ⟨_, _, ?_, tup (b := true) (.int kk l) rfl, ?_⟩
          · simp [Instr.typeAssert, run_underlying hu]
          · simpa [ifI, ifIs, getI] using h
        · have hb := beq_ne htT
          refine ⟨_, _, ?_, tup (b := false) (.int kk 0) rfl, ?_⟩
          · simp [Instr.typeAssert, run_underlying hu, htT, zeroValue, typeInfo, i1.inf, hz, zeroV]
          · simpa [ifI, ifIs, hb] using h
    · cases hx with
      | ifaceS _ vs _ ti ht hk ha hf hl hr =>
        by_cases htT : t = T
        · subst htT
          rw [h1] at ht
          cases ht
          cases ha
        · have hb := beq_ne htT
          refine ⟨_, _, ?_, tup (b := false) (.int kk 0) rfl, ?_⟩
          · simp [Instr.typeAssert, run_underlying hu, htT, zeroValue, typeInfo, i1.inf, hz, zeroV]
          · simpa [ifI, ifIs, hb] using h
  · rename_i fs ks b d h1
    obtain ⟨hsc, h⟩ := bif_true h
    obtain ⟨hd, h⟩ := h
    have hd := isI_inv hd
    have hx := hx.d_inv
    obtain ⟨info, i1⟩ := hT _ _ h1
    obtain ⟨fields, hu, _, _⟩ := i1.uk
    obtain ⟨zs, hz⟩ := i1.zagg rfl
    have hzero : RepC E.B.tt w S g os (.agg zs) (.agg (kCells ks [] 0)) := by
      obtain ⟨zv, hz', hsz, hzc⟩ := i1.zero
      rw [hz] at hz'
      cases hz'
      have hsz : zs.size = ks.length := hsz
      refine .agg _ _ (by rw [kCells_len]; exact hsz) fun i hi => ?_
      rw [kCells_len] at hi
      rw [kCells_get ks [] 0 i _ (List.getElem?_eq_getElem hi)]
      have hk := scalKs_at hsc (List.getElem?_eq_getElem hi)
      have h2 := (hzc i _ (List.getElem?_eq_getElem hi)).1 (fun e => by have e : ks[i] = .other := e; rw [e] at hk; cases hk)
      have h2 : zs.getD i Go.undef = zeroV ks[i] := h2
      rw [h2]
      generalize ks[i] = k at hk
      cases k with
      | bool => exact .d _ _ (.bool _)
      | int k => exact .d _ _ (.int _ _)
      | str => exact .d _ _ (.str [] (by simp))
      | list e => cases hk
      | iface => cases hk
      | other => cases hk
    have hfail : ∀ t v, t ≠ T → (Instr.typeAssert (.iface t v) U T true).run P w = .ok (.tuple #[.agg zs, .bool false]) w := fun t v htT => by
      simp [Instr.typeAssert, run_underlying hu, htT, zeroValue, typeInfo, i1.inf, hz]
    rcases hd with rfl | ⟨t, x, rfl⟩ | ⟨t, ds, rfl⟩
    · cases hx
      refine ⟨_, _, ?_, tupC (b := false) hzero rfl, h⟩
      simp [Instr.typeAssert, run_underlying hu, zeroValue, typeInfo, i1.inf, hz]
    · cases hx with
      | iface _ v _ ti k ht hc hk ha hf hr =>
        by_cases htT : t = T
        · subst htT
          rw [h1] at ht
          cases ht
          cases ha
        · exact ⟨_, _, hfail t v htT, tupC (b := false) hzero rfl, by simpa [ifSs, ifIs, beq_ne htT] using h⟩
    · cases hx with
      | ifaceS _ vs _ ti ht hk ha hf hl hr =>
        by_cases htT : t = T
        · subst htT
          rw [h1] at ht
          cases ht
          refine ⟨.tuple #[.agg vs, .bool true], _, ?_, tupC (b := true) (c1 := .agg (kCells ks ds 0)) ?_ rfl, by simpa [ifSs, ifIs] using h⟩
          · simp [Instr.typeAssert, run_underlying hu]
          · refine .agg _ _ (by rw [kCells_len]; exact hl) fun i hi => ?_
            rw [kCells_len] at hi
            rw [kCells_get ks ds 0 i _ (List.getElem?_eq_getElem hi), Nat.zero_add, CK.norm_fits (fitsAll_at hf i _ (List.getElem?_eq_getElem hi))]
            exact .d _ _ (hr i hi)
        · exact ⟨_, _, hfail t _ htT, tupC (b := false) hzero rfl, by simpa [ifSs, ifIs, beq_ne htT] using h⟩
  · cases h

/-! ### moves, slices -/
theorem moveC_sound {E : Env} (hE : E.B.tt = tt) {T : TypeId} {x : C} {v : Value} {nt : Nat} {a : Act} {s : St} {Kv : C → St → R} (hs : RepSt tt c w g nt a s) (h : moveC E T x s Kv) (hx : RepC tt w (Now c w g s.objs.length) g s.objs v x) :
    Done tt c w g s.objs nt a Kv v w := by
  subst hE
  unfold moveC at h
  split at h
  · rename_i e k b h1
    cases he : rowT E.B.tt e with
    | false =>
      simp only [he, cond_false] at h
      exact Done.same hs hx h
    | true =>
      simp only [he, cond_true] at h
      cases hx with
      | cap0 ad =>
        obtain ⟨h2, h3, h4⟩ := prom_step hs he ad
        exact ⟨_, _, _, h2, h3, h4, h⟩
  · exact Done.same hs hx h
theorem evalSliceS_sound (hT : TTok P tt) {E : Env} (hE : E.B.tt = tt) {T : TypeId} {vx : Value} {cx : C} {lo hi mx : Option C} {vlo vhi vmx : Option Value} {nt : Nat} {a : Act} {s : St} {Kv : C → St → R} (hs : RepSt tt c w g nt a s)
    (h : evalSliceS E T cx lo hi mx s Kv) (hx : RepC tt w (Now c w g s.objs.length) g s.objs vx cx)
    (hlo : Option.Rel (fun v x => RepC tt w (Now c w g s.objs.length) g s.objs v x) vlo lo) (hhi : Option.Rel (fun v x => RepC tt w (Now c w g s.objs.length) g s.objs v x) vhi hi) (hmx : Option.Rel (fun v x => RepC tt w (Now c w g s.objs.length) g s.objs v x) vmx mx) :
    ∃ v, (Instr.sliceAt T vx vlo vhi vmx).run P w = .ok v w ∧ Done tt c w g s.objs nt a Kv v w := by
  unfold evalSliceS at h
  split at h
  · rename_i o e k b h1
    split at h
    · rename_i d os' hd
      obtain ⟨g1, hs1, st1, hr, hf⟩ := toD_sound hs hd hx
      have mo : ∀ {u : Option Value} {x : Option C}, Option.Rel (fun v x => RepC tt w (Now c w g s.objs.length) g s.objs v x) u x → Option.Rel (fun v x => RepC tt w (Now c w g1 os'.length) g1 os' v x) u x := by
        intro u x hr
        cases hr with
        | none => exact .none
        | some hr => exact .some (st1.rep hr)
      obtain ⟨v, cv, hrun, hv, hk⟩ := evalSlice_sound hT hE hs1.inv h (.d _ _ hr) (mo hlo) (mo hhi) (mo hmx)
      exact ⟨v, hrun, cv, _, g1, hs1, st1, hv, hk⟩
    · cases h
  · obtain ⟨v, cv, hrun, hv, hk⟩ := evalSlice_sound hT hE hs.inv h hx hlo hhi hmx
    exact ⟨v, hrun, Done.same hs hv hk⟩

end Go.Proofs.EN
