/- Contracts of functions of this program, by the evaluator EN; part Eb. No conditions but those that each theorem states. -/
import Derived.Test.YtekcghhacpllaaaGreatDoorEa
/- Loads, places, slices. -/
namespace Go.Proofs.EN
open Go
set_option linter.unusedVariables false
set_option linter.unusedSimpArgs false
variable {tt : TypeId → Option TI} {P : Program} {c : Ctx} {w : World} {g : Gh} {os : List Ob} {S : Nat → Prop}

theorem natC_inv {v : Value} {cx : C} {n : Int} (h : natC cx = some n) (hx : RepC tt w S g os v cx) : ∃ k, v = .int k n := by
  unfold natC at h
  split at h
  · simp only [Option.some.injEq] at h
    subst h
    exact ⟨_, hx.int_inv⟩
  · cases h

/-! ### Loads -/
theorem mkC_rep {ag : Bool} {cs : List C} {cv : C} {vs : Array Value} (h : mkC ag cs = some cv) (hl : vs.size = cs.length) (hr : ∀ i, i < cs.length → RepC tt w S g os (vs.getD i Go.undef) (cs.getD i .undef)) :
    RepC tt w S g os (if ag then .agg vs else vs.getD 0 Go.undef) cv := by
  unfold mkC at h
  cases ag with
  | true =>
    simp only [cond_true, Option.some.injEq] at h
    subst h
    exact .agg cs vs hl hr
  | false =>
    simp only [cond_false] at h
    split at h
    · simp only [Option.some.injEq] at h
      subst h
      simpa using hr 0 (by simp)
    · cases h

theorem run_isAgg {ti : TI} {T : TypeId} {info : TypeInfo} (hi : TIok P T ti info) : (isAgg T).run P w = .ok ti.uk.isAgg w := by
  unfold isAgg
  have := hi.uk
  cases hu : ti.uk with
  | bool => rw [hu] at this; simp [run_underlying this.1, UK.isAgg]
  | int k => rw [hu] at this; simp [run_underlying this.1, UK.isAgg]
  | str => rw [hu] at this; simp [run_underlying this.1, UK.isAgg]
  | slice e => rw [hu] at this; simp [run_underlying this.1, UK.isAgg]
  | ptr e => rw [hu] at this; simp [run_underlying this.1, UK.isAgg]
  | struct fs => rw [hu] at this; obtain ⟨fields, h1, _⟩ := this; simp [run_underlying h1, UK.isAgg]
  | func => rw [hu] at this; obtain ⟨⟨_, _, _, h1⟩, _⟩ := this; simp [run_underlying h1, UK.isAgg]
  | map => rw [hu] at this; obtain ⟨h1, _⟩ := this; simp [run_underlying h1, UK.isAgg]
  | iface => rw [hu] at this; obtain ⟨⟨_, h1⟩, _⟩ := this; simp [run_underlying h1, UK.isAgg]
  | tuple ts => rw [hu] at this; obtain ⟨_, h1⟩ := this; simp [run_underlying h1, UK.isAgg]

theorem run_loadVar {ti : TI} {T : TypeId} {info : TypeInfo} (hi : TIok P T ti info) (b off : Nat) (vs : Array Value) (hl : vs.size = ti.cells.length)
    (h1 : ti.uk.isAgg = false → ti.cells.length = 1)
    (hc : ∀ j, j < ti.cells.length → w.cell? ⟨b, off + j, none⟩ = some (vs.getD j Go.undef)) :
    (loadVar T ⟨b, off, none⟩).run P w = .ok (if ti.uk.isAgg then .agg vs else vs.getD 0 Go.undef) w := by
  unfold loadVar
  have hsz : (sizeOf T).run P w = .ok ti.cells.length w := by simp [sizeOf, typeInfo, hi.inf, hi.size]
  simp only [Sem.run_bind, run_isAgg hi, Result.andThen_ok]
  cases ha : ti.uk.isAgg with
  | true =>
    have hld : (loadCells ⟨b, off, none⟩ vs.toList.length).run P w = .ok vs.toList.toArray w :=
      run_loadCells_list (P := P) w ⟨b, off, none⟩ vs.toList (fun j v hv => by
        obtain ⟨hj, hv'⟩ := List.getElem?_eq_some_iff.1 hv
        have hj' : j < vs.size := by simpa using hj
        rw [Addr.add_lit, hc j (by omega)]
        simp [Array.getD, hj']
        simpa using hv')
    have hl' : vs.toList.length = ti.cells.length := by simpa using hl
    rw [hl'] at hld
    simp [hsz, hld]
  | false =>
    have := hc 0 (by have := h1 ha; omega)
    simp only [Nat.add_zero] at this
    simp [this]

theorem mkC_one {ag : Bool} {cs : List C} {cv : C} (h : mkC ag cs = some cv) : ag = false → cs.length = 1 := by
  intro ha
  subst ha
  unfold mkC at h
  simp only [cond_false] at h
  split at h
  · rfl
  · cases h

theorem kCells_length : ∀ (ks : List CK) (ds : List D) (i : Nat), (kCells ks ds i).length = ks.length
  | [], _, _ => rfl
  | k :: ks, ds, i => by simp [kCells, kCells_length ks ds (i + 1)]
theorem kCells_getD : ∀ (ks : List CK) (ds : List D) (i j : Nat), j < ks.length → (kCells ks ds i).getD j .undef = .d ((ks.getD j .other).norm (ds.getD (i + j) .z))
  | [], _, _, _, h => by simp at h
  | k :: ks, ds, i, 0, _ => by simp [kCells]
  | k :: ks, ds, i, j + 1, h => by
    have := kCells_getD ks ds (i + 1) j (by simpa using h)
    simp only [kCells, List.getD_cons_succ, this]
    rw [show i + 1 + j = i + (j + 1) from by omega]
theorem CK.beq_eq {a b : CK} (h : a.beq b = true) : a = b := by
  cases a <;> cases b <;> simp [CK.beq] at h <;> first | rfl | (rw [ikBeq_eq h]) | (rw [h])
theorem ksBeq_eq : ∀ {a b : List CK}, ksBeq a b = true → a = b
  | [], [], _ => rfl
  | a :: x, b :: y, h => by
    simp only [ksBeq, Bool.and_eq_true] at h
    rw [CK.beq_eq h.1, ksBeq_eq h.2]

theorem bif_some {b : Bool} {x : Prop} (h : (bif b then x else False)) : b = true ∧ x := by
  cases b
  · cases h
  · exact ⟨rfl, h⟩


theorem rCells_length (o ver i : Nat) (z : Bool) : ∀ (ks : List CK) (ds : List D) (j : Nat), (rCells o ver i z ks ds j).length = ks.length
  | [], _, _ => rfl
  | k :: ks, ds, j => by simp [rCells, rCells_length o ver i z ks ds (j + 1)]
theorem rCells_getD (o ver i : Nat) (z : Bool) : ∀ (ks : List CK) (ds : List D) (p j : Nat), j < ks.length → (rCells o ver i z ks ds p).getD j .undef = rCell o ver i z (ks.getD j .other) ds (p + j)
  | [], _, _, _, h => by simp at h
  | k :: ks, ds, p, 0, _ => by simp [rCells]
  | k :: ks, ds, p, j + 1, h => by
    have := rCells_getD o ver i z ks ds (p + 1) j (by simpa using h)
    simp only [rCells, List.getD_cons_succ, this]
    rw [show p + 1 + j = p + (j + 1) from by omega]

/-- A load of some cells of plain data. -/
theorem load_laid (hT : TTok P tt) {T : TypeId} {ti ti' : TI} (hti : tt T = some ti) {ks : List CK} {off : Nat} (hks : (ks.drop off).take ti.cells.length = ti.cells) {cs : List C} {cv : C} (hmk : mkC ti.uk.isAgg cs = some cv) (hcl : cs.length = ti.cells.length)
    {b o2 : Nat} {us : Nat → Value} (hc : ∀ j, j < ks.length → w.cell? ⟨b, o2 + j, none⟩ = some (us j)) (hr : ∀ j, j < ti.cells.length → off + j < ks.length → RepC tt w S g os (us (off + j)) (cs.getD j .undef)) :
    ∃ v, (Instr.loadAt T (.pointer (some ⟨b, o2 + off, none⟩))).run P w = .ok v w ∧ RepC tt w S g os v cv := by
  obtain ⟨info, hi⟩ := hT T ti hti
  have hkl : ∀ j, j < ti.cells.length → off + j < ks.length := fun j hj => by
    have : ti.cells.length ≤ ks.length - off := by rw [← hks]; simp; omega
    omega
  let vs : Array Value := ((List.range ti.cells.length).map fun j => us (off + j)).toArray
  have hvl : vs.size = ti.cells.length := by simp [vs]
  have hvg : ∀ j, j < ti.cells.length → vs.getD j Go.undef = us (off + j) := fun j hj => by simp [vs, Array.getD, hj]
  refine ⟨_, ?_, mkC_rep (vs := vs) hmk (by rw [hvl, hcl]) (fun j hj => ?_)⟩
  · simp only [Instr.loadAt, Instr.sureAddr, Sem.run_bind, Sem.run_pure, Result.andThen_ok]
    refine run_loadVar hi b (o2 + off) vs hvl (fun ha => by have := mkC_one hmk ha; omega) (fun j hj => ?_)
    rw [hvg j hj, Nat.add_assoc]
    exact hc _ (hkl j hj)
  · rw [hcl] at hj
    rw [hvg j hj]
    exact hr j hj (hkl j hj)
theorem getD_take_drop {ks cs : List CK} {off j : Nat} (h : (ks.drop off).take cs.length = cs) (hj : j < cs.length) : cs.getD j .other = ks.getD (off + j) .other ∧ ks[off + j]? = cs[j]? := by
  have : cs[j]? = ks[off + j]? := by
    conv => lhs; rw [← h]
    simp [hj]
  refine ⟨?_, this.symm⟩
  rw [List.getD_eq_getElem?_getD, List.getD_eq_getElem?_getD, this]

/-- A load out of a slice that stands in a cell. -/
theorem np_load (hT : TTok P tt) {T e : TypeId} {ti te : TI} {md : Md} {b m cap j f : Nat} {ys : List (List D)} {φ' : Nat → Prop} {cv : C} (hti : tt T = some ti) (hte : tt e = some te) (hks : (te.cells.drop f).take ti.cells.length = ti.cells) (hfl : flatKs ti.cells = true ∨ Md.beq md (.lv 1) = true)
    (hmk : mkC ti.uk.isAgg (kCells ti.cells (ys.getD j []) f) = some cv) (hz : md.isZ = false) (hw : RepW tt w S md (.slice (some ⟨b, 0, none⟩) m cap) (.list e ys) φ') (hj : j < ys.length) :
    ∃ v, (Instr.loadAt T (.pointer (some ⟨b, j * te.cells.length + f, none⟩))).run P w = .ok v w ∧ RepC tt w S g os v cv := by
  obtain ⟨a, cap', he, hbg, hle, hcs⟩ := hw.list_inv hz
  cases he
  obtain ⟨te3, hte3, _, hk, hfit, b', vs, φs, hb', hh, hsz, _, _, _, hr⟩ := hcs (by omega)
  rw [hte] at hte3; cases hte3
  simp only [Option.some.injEq, Addr.mk.injEq, and_true] at hb'
  subst hb'
  refine load_laid (S := S) (g := g) (os := os) (ti' := te) hT hti hks hmk (kCells_length _ _ _) (b := b) (o2 := j * te.cells.length) (us := fun q => vs.getD (j * te.cells.length + q) Go.undef) (fun q hq => ?_) (fun q hq hqk => ?_)
  · have hlt : j * te.cells.length + q < vs.size := by rw [hsz]; exact idx_lt (by omega) hq
    rw [cell_of_row w b _ vs e (0, 0) hh]
    simp [Array.getD, hlt]
  · rw [kCells_getD _ _ _ _ hq, (getD_take_drop hks hq).1]
    have hkk : te.cells[f + q]? = some (te.cells.getD (f + q) .other) := by
      rw [List.getD_eq_getElem?_getD, List.getElem?_eq_getElem hqk]; simp
    have hfj := fitsAll_at (hfit j hj) (f + q) _ hkk
    rw [CK.norm_fits hfj]
    have hww := hr j (f + q) hj hqk
    have hnl : (te.cells.getD (f + q) .other).isL = false ∨ md.down.isZ = true := by
      rcases hfl with hfl | hm
      · left
        rw [← (getD_take_drop hks hq).1]
        have : ∀ (l : List CK) (q : Nat), flatKs l = true → (l.getD q .other).isL = false := by
          intro l
          induction l with
          | nil => intro q _; rfl
          | cons k l ih =>
            intro q hf
            simp only [flatKs, Bool.and_eq_true, Bool.not_eq_true'] at hf
            cases q with
            | zero => simpa using hf.1
            | succ q => simpa using ih q hf.2
        exact this _ _ hfl
      · right
        rw [Md.beq_eq hm]; rfl
    have hdl := CK.fits_isL hfj
    generalize md.down = m2 at hww hnl
    generalize vs.getD (j * te.cells.length + (f + q)) Go.undef = u at hww ⊢
    generalize (ys.getD j []).getD (f + q) .z = d at hww hdl ⊢
    cases hww with
    | froz _ _ _ h => exact .d _ _ h
    | sc _ _ _ _ h _ => exact .d _ _ h
    | zero => exact .d _ _ (.nil _ _ _)
    | list m3 =>
      rcases hnl with h | h
      · rw [h] at hdl; cases hdl
      · rw [isZ_up] at h; cases h
theorem evalLoad_sound (hT : TTok P tt) {E : Env} (hE : E.B.tt = tt) {T : TypeId} {s : St} {vx : Value} {cx : C} {Kv : C → R} (hI : Inv tt c w g s.objs)
    (h : evalLoad E T cx s Kv) (hx : RepC tt w (Now c w g s.objs.length) g s.objs vx cx) :
    ∃ v cv, (Instr.loadAt T vx).run P w = .ok v w ∧ RepC tt w (Now c w g s.objs.length) g s.objs v cv ∧ Kv cv := by
  subst hE
  unfold evalLoad at h
  split at h
  · cases h
  rename_i ti hti
  split at h
  · -- a box
    rename_i o off
    split at h
    · rename_i cs hcs
      obtain ⟨hle, h⟩ := bif_some h
      have hle : off + ti.cells.length ≤ cs.length := Nat.le_of_ble_eq_true hle
      split at h
      · rename_i cv hmk
        have hob := getD_some hcs (by simp)
        cases hx with
        | ref _ _ b hη =>
          obtain ⟨b', vs, T', hb', hh, hsz, hr, h1, _⟩ := hI.ob o _ _ hob hη
          simp only [Value.pointer.injEq, Option.some.injEq, Addr.mk.injEq, and_true] at hb'
          subst hb'
          obtain ⟨info, hi⟩ := hT T ti hti
          have hlen : ((cs.drop off).take ti.cells.length).length = ti.cells.length := by simp; omega
          have hvl : (vs.extract off (off + ti.cells.length)).size = ti.cells.length := by simp; omega
          refine ⟨_, cv, ?_, mkC_rep (vs := vs.extract off (off + ti.cells.length)) hmk (by rw [hvl, hlen]) ?_, h⟩
          · simp only [Instr.loadAt, Instr.sureAddr, Sem.run_bind, Sem.run_pure, Result.andThen_ok]
            refine run_loadVar hi b off _ hvl (fun ha => by have := mkC_one hmk ha; omega) (fun j hj => ?_)
            rw [cell_of_row w b _ vs T' (0, 0) hh]
            simp [Array.getD, hj, show off + j < vs.size by omega]
            intro hmin
            omega
          · intro i hi'
            rw [hlen] at hi'
            have := hr (off + i) (by omega)
            simp [Array.getD, List.getD_eq_getElem?_getD, show off + i < vs.size by omega, show off + i < cs.length by omega, hi'] at this ⊢
            rw [dif_pos (by omega)]
            exact this
      · cases h
    · cases h
  · -- plain data
    rename_i ks ds off
    obtain ⟨hcond, h⟩ := bif_some h
    simp only [Bool.and_eq_true] at hcond
    obtain ⟨hks, hdk⟩ := hcond
    have hks := ksBeq_eq hks
    split at h
    · rename_i cv hmk
      cases hx with
      | lp _ _ _ b o2 vs hS hf hc hr =>
        obtain ⟨v, h1, h2⟩ := load_laid (S := Now c w g s.objs.length) (g := g) (os := s.objs) (ti' := ti) hT hti hks hmk (kCells_length _ _ _) hc (fun j hj hk => by
          rw [kCells_getD _ _ _ _ hj, (getD_take_drop hks hj).1]
          have hfj : (ks.getD (off + j) .other).fits (ds.getD (off + j) .z) := fitsAll_at hf (off + j) _ (by
            rw [List.getD_eq_getElem?_getD, List.getElem?_eq_getElem hk]
            simp)
          rw [CK.norm_fits hfj]
          exact .d _ _ (hr _ hk))
        exact ⟨v, cv, h1, h2, h⟩
    · cases h
  · -- an element of a row of one's own
    rename_i o i off
    split at h
    · rename_i T' md ver xs hxs
      split at h
      · rename_i ti' hti'
        obtain ⟨hcond, hix, h⟩ := bif_some h
        simp only [Bool.and_eq_true] at hcond
        obtain ⟨hks, hdk⟩ := hcond
        have hks := ksBeq_eq hks
        split at h
        · rename_i cv hmk
          have hob := getD_some hxs (by simp)
          cases hx with
          | rp _ _ _ b p ho hrp =>
            obtain ⟨_, ti2, o2, m, cap2, ht2, hη, rfl⟩ := hrp xs.length T' (.inl ⟨md, ver, xs, hob, rfl⟩)
            rw [hti'] at ht2; cases ht2
            obtain ⟨a, cap, ti3, hv, ht3, hd, hk, hfit, hle, hbg, hcap⟩ := hI.ob o _ _ hob hη
            rw [hti'] at ht3; cases ht3
            simp only [Value.slice.injEq] at hv
            obtain ⟨rfl, rfl, rfl⟩ := hv
            obtain ⟨b', us0, φs, hb', hh, hsz, hφb, hφs, hdj, hr, hν⟩ := hcap (by omega)
            simp only [Option.some.injEq, Addr.mk.injEq, and_true] at hb'
            obtain ⟨rfl, rfl⟩ := hb'
            have hbase : 0 + (i * ti'.cells.length + off) = i * ti'.cells.length + off := by omega
            rw [hbase]
            obtain ⟨v, h1, h2⟩ := load_laid (S := Now c w g s.objs.length) (g := g) (os := s.objs) (ti' := ti') hT hti hks hmk (rCells_length _ _ _ _ _ _ _) (b := b) (o2 := i * ti'.cells.length) (us := fun j => us0.getD (i * ti'.cells.length + j) Go.undef) (fun j hj => by
                have hlt : i * ti'.cells.length + j < us0.size := by rw [hsz]; exact idx_lt (by omega) hj
                rw [cell_of_row w b _ us0 T' (0, 0) hh]
                simp [Array.getD, hlt]) (fun j hj hjk => by
                rw [rCells_getD _ _ _ _ _ _ _ _ hj, (getD_take_drop hks hj).1]
                have hkk : ti'.cells[off + j]? = some (ti'.cells.getD (off + j) .other) := by
                  rw [List.getD_eq_getElem?_getD, List.getElem?_eq_getElem hjk]; simp
                have hfj := fitsAll_at (hfit i hix) (off + j) _ hkk
                have hw := hr i (off + j) hix hjk (fun h => h)
                generalize hkd : ti'.cells.getD (off + j) .other = kd at hkk hfj ⊢
                have dcase : ∀ (k : CK), k.fits ((xs.getD i []).getD (off + j) .z) → Rep E.B.tt w (Now c w g s.objs.length) (us0.getD (i * ti'.cells.length + (off + j)) Go.undef) ((xs.getD i []).getD (off + j) .z) → RepC E.B.tt w (Now c w g s.objs.length) g s.objs (us0.getD (i * ti'.cells.length + (off + j)) Go.undef) (.d (k.norm ((xs.getD i []).getD (off + j) .z))) := by
                  intro k hf hr
                  rw [CK.norm_fits hf]
                  exact .d _ _ hr
                have scase : kd.isL = false ∨ md.isZ = true → RepC E.B.tt w (Now c w g s.objs.length) g s.objs (us0.getD (i * ti'.cells.length + (off + j)) Go.undef) (.d (kd.norm ((xs.getD i []).getD (off + j) .z))) := by
                  intro hor
                  refine dcase kd hfj ?_
                  have hdl := CK.fits_isL hfj
                  generalize us0.getD (i * ti'.cells.length + (off + j)) Go.undef = u at hw ⊢
                  generalize (xs.getD i []).getD (off + j) .z = d at hw hdl ⊢
                  cases hw with
                  | froz _ _ _ h => exact h
                  | sc _ _ _ _ h _ => exact h
                  | zero => exact .nil _ _ _
                  | list m =>
                    rcases hor with h | h
                    · rw [h] at hdl; cases hdl
                    · rw [isZ_up] at h; cases h
                cases hz : md.isZ with
                | true =>
                  have e1 : rCell o ver i true kd (xs.getD i []) (off + j) = .d (kd.norm ((xs.getD i []).getD (off + j) .z)) := by cases kd <;> rfl
                  rw [e1]
                  exact scase (.inr hz)
                | false =>
                  cases hkl : kd with
                  | list e =>
                    rw [hkl] at hkk
                    have h3 := hν i (off + j) e hix hkk
                    show RepC E.B.tt w (Now c w g s.objs.length) g s.objs (us0.getD (i * ti'.cells.length + (off + j)) Go.undef) (.nst e o ver i (off + j))
                    rw [h3.1]
                    refine .nst _ e o ver i (off + j) (by have := hI.len; have := ob_lt hob; omega) (fun T2 ver2 n2 hq => ?_) h3.2
                    have hq2 : T2 = T' ∧ n2 = xs.length ∧ ver2 = ver := by
                      rcases hq with ⟨_, _, hq, rfl⟩ | ⟨_, _, _, _, hq, _⟩ | ⟨_, _, _, hq, _⟩ | ⟨_, _, _, _, hq, _⟩ <;> rw [hob] at hq <;> cases hq
                      exact ⟨rfl, rfl, rfl⟩
                    obtain ⟨rfl, rfl, rfl⟩ := hq2
                    exact ⟨Nat.le_refl _, fun _ => ⟨rfl, hix, ti', hti', hkk⟩⟩
                  | bool => rw [hkl] at scase; exact scase (.inl rfl)
                  | int k => rw [hkl] at scase; exact scase (.inl rfl)
                  | str => rw [hkl] at scase; exact scase (.inl rfl)
                  | iface => rw [hkl] at scase; exact scase (.inl rfl)
                  | other => rw [hkl] at scase; exact scase (.inl rfl))
            exact ⟨v, cv, h1, h2, h⟩
        · cases h
      · cases h
    · rename_i T' xs hxs
      split at h
      · rename_i ti' hti'
        obtain ⟨hcond, hix, h⟩ := bif_some h
        simp only [Bool.and_eq_true] at hcond
        obtain ⟨hks, hdk⟩ := hcond
        have hks := ksBeq_eq hks
        split at h
        · rename_i cv hmk
          have hob := getD_some hxs (by simp)
          cases hx with
          | rp _ _ _ b p ho hrp =>
            obtain ⟨_, ti2, o2, m, cap2, ht2, hη, rfl⟩ := hrp xs.length T' (.inr (.inr ⟨xs, hob, rfl⟩))
            rw [hti'] at ht2; cases ht2
            have hrep : Rep E.B.tt w (Now c w g s.objs.length) (.slice (some ⟨b, o2, none⟩) m cap2) (.list T' xs) := hI.ob o _ _ hob hη
            obtain ⟨rfl, _, _, hl⟩ := hrep.laid
            obtain ⟨ti3, ht3, hd, hk, hfit, b', off', hb', _, _, vs, hc, hr⟩ := hl (by omega)
            rw [hti'] at ht3; cases ht3
            simp only [Option.some.injEq, Addr.mk.injEq, and_true] at hb'
            obtain ⟨rfl, rfl⟩ := hb'
            have hbase : o2 + (i * ti'.cells.length + off) = (o2 + i * ti'.cells.length) + off := by omega
            rw [hbase]
            obtain ⟨v, h1, h2⟩ := load_laid (S := Now c w g s.objs.length) (g := g) (os := s.objs) (ti' := ti') hT hti hks hmk (kCells_length _ _ _) (b := b) (o2 := o2 + i * ti'.cells.length) (us := fun j => vs i j) (fun j hj => by
                rw [Nat.add_assoc]; exact hc i j hix hj) (fun j hj hjk => by
                rw [kCells_getD _ _ _ _ hj, (getD_take_drop hks hj).1]
                have hfj : (ti'.cells.getD (off + j) .other).fits ((xs.getD i []).getD (off + j) .z) := fitsAll_at (hfit i hix) (off + j) _ (by
                  rw [List.getD_eq_getElem?_getD, List.getElem?_eq_getElem hjk]
                  simp)
                rw [CK.norm_fits hfj]
                exact .d _ _ (hr _ _ hix hjk))
            exact ⟨v, cv, h1, h2, h⟩
        · cases h
      · cases h
    · cases h
  · -- an element of a slice in a row's cell
    rename_i e o ver i off j f
    split at h
    · rename_i T' md ver' xs hxs
      split at h
      · rename_i te hte
        obtain ⟨hcond, ⟨hix, hjx⟩, hfin⟩ := bif_some h
        clear h
        simp only [Bool.and_eq_true, Bool.or_eq_true, Bool.not_eq_true'] at hcond
        obtain ⟨hver, hz, hks, hdk, hfl⟩ := hcond
        have hver := Nat.eq_of_beq_eq_true hver
        subst hver
        split at hfin
        · rename_i cv hmk
          have hob := getD_some hxs (by simp)
          cases hx with
          | np _ _ _ _ _ _ _ b p ho hnp =>
            obtain ⟨_, ⟨ti, hti0, hke⟩, te2, m, cap, hte2, hν, hjm, rfl⟩ := (hnp T' _ xs.length (.inl ⟨md, xs, hob, rfl⟩)).2 rfl
            rw [hte] at hte2; cases hte2
            obtain ⟨v0, hv0⟩ := hI.eta hob
            obtain ⟨φ', hφ', hd, hw⟩ := nst_inv (hI.ob o _ v0 hob hv0) hz hix hti0 hke
            rw [hν] at hw
            obtain ⟨v, h1, h2⟩ := np_load hT hti hte (ksBeq_eq hks) hfl hmk hz hw hjx
            exact ⟨v, cv, h1, h2, hfin⟩
        · cases hfin
      · cases h
    · rename_i K T' md ver' es hes
      split at h
      · rename_i te hte
        obtain ⟨hcond, ⟨hix, hjx⟩, hfin⟩ := bif_some h
        clear h
        simp only [Bool.and_eq_true, Bool.or_eq_true, Bool.not_eq_true'] at hcond
        obtain ⟨⟨hver, hof⟩, hz, hks, hdk, hfl⟩ := hcond
        have hver := Nat.eq_of_beq_eq_true hver
        have hof := Nat.eq_of_beq_eq_true hof
        subst hver hof
        split at hfin
        · rename_i cv hmk
          have hob := getD_some hes (by simp)
          cases hx with
          | np _ _ _ _ _ _ _ b p ho hnp =>
            obtain ⟨_, ⟨ti, hti0, hke⟩, te2, m, cap, hte2, hν, hjm, rfl⟩ := (hnp T' _ es.length (.inr (.inr (.inl ⟨K, md, es, hob, Nat.le_refl _⟩)))).2 rfl
            rw [hte] at hte2; cases hte2
            obtain ⟨v0, hv0⟩ := hI.eta hob
            obtain ⟨φ', hφ', hd, hw⟩ := map_inv (hI.ob o _ v0 hob hv0) hix hti0 hke
            rw [hν] at hw
            obtain ⟨v, h1, h2⟩ := np_load hT hti hte (ksBeq_eq hks) hfl hmk hz hw hjx
            exact ⟨v, cv, h1, h2, hfin⟩
        · cases hfin
      · cases h
    · cases h
  · cases h

end Go.Proofs.EN
/- Places, slices, conversions. -/
namespace Go.Proofs.EN
open Go
set_option linter.unusedVariables false
set_option linter.unusedSimpArgs false
variable {tt : TypeId → Option TI} {P : Program} {c : Ctx} {w : World} {g : Gh} {os : List Ob} {S : Nat → Prop}

theorem run_fieldAt {fs : List (Nat × TypeId)} {ks : List CK} {T : TypeId} {by' : Nat} {info : TypeInfo} (hT : TTok P tt) (hTi : TIok P T ⟨.struct fs, ks, by'⟩ info) {f off : Nat} {U : TypeId} {tu : TI} (hf : fs[f]? = some (off, U))
    (hU : tt U = some tu) (h0 : 0 < tu.cells.length) (b o : Nat) : (Instr.fieldAt T (.pointer (some ⟨b, o, none⟩)) f).run P w = .ok (.pointer (some ⟨b, o + off, none⟩)) w := by
  obtain ⟨infu, hTu⟩ := hT U _ hU
  obtain ⟨fields, hu, hfs, _⟩ := hTi.uk
  have : ∃ fld, fields[f]? = some fld ∧ fld.offset = off ∧ fld.type = U := by
    rw [← hfs] at hf
    simp only [List.getElem?_map, Option.map_eq_some_iff, Prod.mk.injEq] at hf
    obtain ⟨fld, h1, h2, h3⟩ := hf
    exact ⟨fld, by simpa using h1, h2, h3⟩
  obtain ⟨fld, h1, rfl, rfl⟩ := this
  have hne : tu.cells ≠ [] := by intro hnil; rw [hnil] at h0; simp at h0
  simp [Instr.fieldAt, run_underlying hu, h1, Instr.sureAddr, fieldPlace, sizeOf, typeInfo, hTu.inf, hTu.size, hne, Addr.add_lit]

theorem ba_extract (t : Str) (l r : Nat) : (⟨t.toArray⟩ : ByteArray).extract l r = ⟨((t.take r).drop l).toArray⟩ := by
  apply ByteArray.ext
  apply Array.ext'
  simp [ByteArray.data_extract, Array.toList_extract, List.extract_eq_take_drop]
  rw [List.drop_take]


theorem isR3_row {o : Nat} {T T2 : TypeId} {md : Md} {ver n : Nat} {xs : List (List D)} (ho : os[o]? = some (.row T md ver xs)) (h : isR3 os o T2 n) : T2 = T ∧ n = xs.length := by
  rcases h with ⟨_, _, _, hq, rfl⟩ | ⟨_, _, _, _, _, hq, _⟩ | ⟨_, hq, _⟩ <;> rw [ho] at hq <;> cases hq
  exact ⟨rfl, rfl⟩
theorem isRH_row {o : Nat} {T T2 : TypeId} {md : Md} {ver ver2 n : Nat} {xs : List (List D)} (ho : os[o]? = some (.row T md ver xs)) (h : isRH os o T2 ver2 n) : T2 = T ∧ n = xs.length ∧ ver2 = ver := by
  rcases h with ⟨_, _, hq, rfl⟩ | ⟨_, _, _, _, hq, _⟩ | ⟨_, _, _, hq, _⟩ | ⟨_, _, _, _, hq, _⟩ <;> rw [ho] at hq <;> cases hq
  exact ⟨rfl, rfl, rfl⟩
theorem isRH_map {o : Nat} {K T T2 : TypeId} {md : Md} {ver ver2 n : Nat} {es : List (D × D)} (ho : os[o]? = some (.map K T md ver es)) (h : isRH os o T2 ver2 n) : T2 = T ∧ es.length ≤ n ∧ ver2 = ver := by
  rcases h with ⟨_, _, hq, rfl⟩ | ⟨_, _, _, _, hq, _⟩ | ⟨_, _, _, hq, hn⟩ | ⟨_, _, _, _, hq, _⟩ <;> rw [ho] at hq <;> cases hq
  exact ⟨rfl, hn, rfl⟩
theorem isR3_frz {o : Nat} {T T2 : TypeId} {n : Nat} {xs : List (List D)} (ho : os[o]? = some (.frz T xs)) (h : isR3 os o T2 n) : T2 = T ∧ n = xs.length := by
  rcases h with ⟨_, _, _, hq, rfl⟩ | ⟨_, _, _, _, _, hq, _⟩ | ⟨_, hq, rfl⟩ <;> rw [ho] at hq <;> cases hq
  exact ⟨rfl, rfl⟩

theorem evalIndexAddr_sound (hT : TTok P tt) {E : Env} (hE : E.B.tt = tt) {T : TypeId} {s : St} {vx vi : Value} {cx ci : C} {Kv : C → R} (hI : Inv tt c w g s.objs)
    (h : evalIndexAddr E T cx ci s Kv) (hx : RepC tt w (Now c w g s.objs.length) g s.objs vx cx) (hi : RepC tt w (Now c w g s.objs.length) g s.objs vi ci) :
    ∃ v cv, (Instr.indexAt T vx vi).run P w = .ok v w ∧ RepC tt w (Now c w g s.objs.length) g s.objs v cv ∧ Kv cv := by
  unfold evalIndexAddr at h
  rw [hE] at h
  split at h
  · rename_i e ks by' n hti hn
    obtain ⟨k, rfl⟩ := natC_inv hn hi
    split at h
    · rename_i ti hte
      split at h
      · rename_i xs hxs
        obtain ⟨hd, ⟨h0, h1⟩, hfin⟩ := bif_some h
        clear h
        obtain ⟨a, cap, rfl, hbg, hle, hpos⟩ := elems_rep hI hxs hx
        obtain ⟨⟨ti2, ht2, hd2, hk, hfit, b, off, rfl, hb, _, vs, hc, hr⟩, hdata⟩ := hpos (by omega)
        rw [hte] at ht2
        cases ht2
        obtain ⟨info, hTi⟩ := hT T _ hti
        obtain ⟨infe, hTe⟩ := hT e _ hte
        have hu := hTi.uk.1
        have hrun : (Instr.indexAt T (.slice (some ⟨b, off, none⟩) xs.length cap) (.int k n)).run P w = .ok (.pointer (some ⟨b, off + n.toNat * ti.cells.length, none⟩)) w := by
          simp [Instr.indexAt, asIntOf, run_underlying hu, h0, h1, sizeOf, typeInfo, hTe.inf, hTe.size, Addr.add_lit]
        have hin : n.toNat < xs.length := by omega
        have hl := hI.len
        split at hfin
        · -- a row of one's own
          rename_i o
          refine ⟨_, _, hrun, ?_, hfin⟩
          unfold elems at hxs
          simp only at hxs
          split at hxs
          · rename_i T' md ver ys ho
            have ho' := getD_some ho (by simp)
            cases hq : Nat.beq T' e with
            | false => simp [hq] at hxs
            | true =>
              have hTe' : T' = e := Nat.eq_of_beq_eq_true hq
              simp only [hq, cond_true, Option.some.injEq] at hxs
              subst hxs hTe'
              generalize hv : Value.slice (some ⟨b, off, none⟩) ys.length cap = v0 at hx
              cases hx with
              | row _ _ hol hrow h1' =>
                refine .rp o n.toNat 0 _ _ hol fun m T2 h3 => ?_
                obtain ⟨rfl, rfl⟩ := isR3_row ho' h3
                exact ⟨hin, ti, off, _, cap, hte, by rw [hv]; exact hrow (by rw [ho']; simp), by omega⟩
          · rename_i T' ys ho
            have ho' := getD_some ho (by simp)
            cases hq : Nat.beq T' e with
            | false => simp [hq] at hxs
            | true =>
              have hTe' : T' = e := Nat.eq_of_beq_eq_true hq
              simp only [hq, cond_true, Option.some.injEq] at hxs
              subst hxs hTe'
              generalize hv : Value.slice (some ⟨b, off, none⟩) ys.length cap = v0 at hx
              cases hx with
              | row _ _ hol hrow h1' =>
                refine .rp o n.toNat 0 _ _ hol fun m T2 h3 => ?_
                obtain ⟨rfl, rfl⟩ := isR3_frz ho' h3
                exact ⟨hin, ti, off, _, cap, hte, by rw [hv]; exact hrow (by rw [ho']; simp), by omega⟩
          · cases hxs
        · rename_i e' o ver i off'
          unfold elems at hxs
          simp only at hxs
          split at hxs
          · rename_i T0 md ver' xs0 ho
            have ho' := getD_some ho (by simp)
            cases hb' : (Nat.beq e' e && (Nat.beq ver ver' && !md.isZ)) with
            | false => simp [hb'] at hxs
            | true =>
              simp only [hb', cond_true, Option.some.injEq] at hxs
              simp only [Bool.and_eq_true, Bool.not_eq_true'] at hb'
              obtain ⟨q1, q2, q3⟩ := hb'
              have q1 := Nat.eq_of_beq_eq_true q1
              have q2 := Nat.eq_of_beq_eq_true q2
              subst q1 q2 hxs
              refine ⟨_, _, hrun, ?_, hfin⟩
              generalize hv : Value.slice (some ⟨b, off, none⟩) (nstF xs0 i off').length cap = v0 at hx
              cases hx with
              | nst _ _ _ _ _ _ hol hn' hone =>
                refine .np e' o ver i off' n.toNat 0 _ _ hol fun T2 ver2 m h3 => ?_
                refine ⟨(hn' T2 ver2 m h3).1, fun hve => ?_⟩
                obtain ⟨hv2, hi2, hti2⟩ := (hn' T2 ver2 m h3).2 hve
                obtain ⟨rfl, rfl, _⟩ := isRH_row ho' h3
                obtain ⟨t2, ht2, he2⟩ := hti2
                obtain ⟨u0, hu0⟩ := hI.eta ho'
                obtain ⟨φ', _, _, hw⟩ := nst_inv (hI.ob o _ u0 ho' hu0) q3 hi2 ht2 he2
                rw [← hv2, ← hv] at hw
                obtain ⟨a2, cap2, he3, _, _, hcs⟩ := hw.list_inv q3
                cases he3
                obtain ⟨_, _, _, _, _, b2, _, _, hb2, _⟩ := hcs (by omega)
                cases hb2
                exact ⟨hi2, ⟨t2, ht2, he2⟩, ti, _, cap, hte, by rw [← hv2, ← hv], hin, by omega⟩
          · rename_i K T0 md ver' es0 ho
            have ho' := getD_some ho (by simp)
            cases hb' : (Nat.beq e' e && (Nat.beq ver ver' && (!md.isZ && Nat.beq off' 0))) with
            | false => simp [hb'] at hxs
            | true =>
              simp only [hb', cond_true, Option.some.injEq] at hxs
              simp only [Bool.and_eq_true, Bool.not_eq_true'] at hb'
              obtain ⟨q1, q2, q3, q4⟩ := hb'
              have q1 := Nat.eq_of_beq_eq_true q1
              have q2 := Nat.eq_of_beq_eq_true q2
              have q4 := Nat.eq_of_beq_eq_true q4
              subst q1 q2 hxs q4
              refine ⟨_, _, hrun, ?_, hfin⟩
              generalize hv : Value.slice (some ⟨b, off, none⟩) (mapF es0 i).length cap = v0 at hx
              cases hx with
              | nst _ _ _ _ _ _ hol hn' hone =>
                refine .np e' o ver i 0 n.toNat 0 _ _ hol fun T2 ver2 m h3 => ?_
                refine ⟨(hn' T2 ver2 m h3).1, fun hve => ?_⟩
                obtain ⟨hv2, hi2, hti2⟩ := (hn' T2 ver2 m h3).2 hve
                obtain ⟨rfl, _, rfl⟩ := isRH_map ho' h3
                obtain ⟨_, hi3, _⟩ := (hn' T2 _ _ (.inr (.inr (.inl ⟨K, md, es0, ho', Nat.le_refl _⟩)))).2 hve
                obtain ⟨t2, ht2, he2⟩ := hti2
                obtain ⟨u0, hu0⟩ := hI.eta ho'
                obtain ⟨φ', _, _, hw⟩ := map_inv (hI.ob o _ u0 ho' hu0) hi3 ht2 he2
                rw [← hv2, ← hv] at hw
                obtain ⟨a2, cap2, he3, _, _, hcs⟩ := hw.list_inv q3
                cases he3
                obtain ⟨_, _, _, _, _, b2, _, _, hb2, _⟩ := hcs (by omega)
                cases hb2
                exact ⟨hi2, ⟨t2, ht2, he2⟩, ti, _, cap, hte, by rw [← hv2, ← hv], hin, by omega⟩
          · cases hxs
        · rename_i e' o ver i off' lo m0
          unfold elems at hxs
          simp only at hxs
          split at hxs
          · rename_i T0 md ver' xs0 ho
            have ho' := getD_some ho (by simp)
            cases hb' : (Nat.beq e' e && (Nat.beq ver ver' && !md.isZ)) with
            | false => simp [hb'] at hxs
            | true =>
              simp only [hb', cond_true, Option.some.injEq] at hxs
              simp only [Bool.and_eq_true, Bool.not_eq_true'] at hb'
              obtain ⟨q1, q2, q3⟩ := hb'
              have q1 := Nat.eq_of_beq_eq_true q1
              have q2 := Nat.eq_of_beq_eq_true q2
              subst q1 q2 hxs
              refine ⟨_, _, hrun, ?_, hfin⟩
              generalize hv : Value.slice (some ⟨b, off, none⟩) (nstL xs0 i off' lo m0).length cap = v0 at hx
              cases hx with
              | nsl _ _ _ _ _ _ _ _ hol hn' hone =>
                refine .np e' o ver i off' (lo + n.toNat) 0 _ _ hol fun T2 ver2 m h3 => ?_
                refine ⟨(hn' T2 ver2 m h3).1, fun hve => ?_⟩
                obtain ⟨⟨te, hte2, a1, m1, cap1, hν, hlo, hv2⟩, hi2, hti2⟩ := (hn' T2 ver2 m h3).2 hve
                rw [hte] at hte2; cases hte2
                obtain ⟨rfl, rfl, _⟩ := isRH_row ho' h3
                obtain ⟨t2, ht2, he2⟩ := hti2
                obtain ⟨u0, hu0⟩ := hI.eta ho'
                obtain ⟨φ', _, _, hw⟩ := nst_inv (hI.ob o _ u0 ho' hu0) q3 hi2 ht2 he2
                rw [hν] at hw
                obtain ⟨a2, cap2, he3, _, hle3, hcs⟩ := hw.list_inv q3
                cases he3
                have hnl : (nstL xs0 i off' lo m0).length = m0 := by unfold nstL; simp; omega
                rw [hnl] at hin
                obtain ⟨_, _, _, _, _, b2, _, _, rfl, _⟩ := hcs (by omega)
                rw [← hv] at hv2
                rw [if_neg (by omega)] at hv2
                simp only [Option.map_some, Addr.add_lit, Value.slice.injEq, Option.some.injEq, Addr.mk.injEq, and_true] at hv2
                obtain ⟨⟨rfl, rfl⟩, _, _⟩ := hv2
                exact ⟨hi2, ⟨t2, ht2, he2⟩, ti, _, _, hte, hν, by omega, by rw [Nat.add_mul]; omega⟩
          · cases hxs
        · rename_i hno1 hno2 hno3
          have hown : cx.own = false := by
            cases cx <;> first | rfl | exact absurd rfl (hno1 _) | exact absurd rfl (hno2 _ _ _ _ _) | exact absurd rfl (hno3 _ _ _ _ _ _ _)
          obtain ⟨ti3, ht3, hd3, hk3, hfit3, b3, off3, hb3, _, hnow, vs3, hc3, hr3⟩ := hdata hown
          cases hb3
          rw [hte] at ht3; cases ht3
          refine ⟨_, _, hrun, ?_, hfin⟩
          have := RepC.lp (tt := tt) (w := w) (S := Now c w g s.objs.length) (g := g) (os := s.objs) ti.cells (xs.getD n.toNat []) 0 b (off + n.toNat * ti.cells.length) (fun j => vs3 n.toNat j) hnow (hfit _ hin)
            (fun j hj => by rw [Nat.add_assoc]; exact hc3 _ _ hin hj) (fun j hj => hr3 _ _ hin hj)
          simpa using this
      · split at h
        · rename_i o _
          split at h
          · rename_i T' md ver xs i0 j0 ho
            have ho' := getD_some ho (by simp)
            obtain ⟨hq, ⟨h0, h1⟩, hk⟩ := bif_some h
            obtain rfl := Nat.eq_of_beq_eq_true hq
            obtain ⟨info, hTi⟩ := hT T _ hti
            obtain ⟨infe, hTe⟩ := hT T' _ hte
            have hu := hTi.uk.1
            obtain ⟨u0, hu0⟩ := hI.eta ho'
            obtain ⟨a, cap, ti2, rfl, ht2, _, hk0, _, hcap, hbig, hblk⟩ := (hI.ob o _ u0 ho' hu0 : RowX tt w (Now c w g s.objs.length) (fun i j => i = i0 ∧ j = j0) md u0 T' xs (g.φ o) (g.ν o))
            rw [hte] at ht2
            cases ht2
            obtain ⟨b, vs, φs, rfl, _⟩ := hblk (by omega)
            cases hx with
            | row _ _ hol hrow h1' =>
              have hv := hrow (by rw [ho']; simp)
              rw [hu0] at hv
              cases hv
              have hrun : (Instr.indexAt T (.slice (some ⟨b, 0, none⟩) xs.length cap) (.int k n)).run P w = .ok (.pointer (some ⟨b, 0 + n.toNat * ti.cells.length, none⟩)) w := by
                simp [Instr.indexAt, asIntOf, run_underlying hu, h0, h1, sizeOf, typeInfo, hTe.inf, hTe.size, Addr.add_lit]
              refine ⟨_, _, hrun, .rp o n.toNat 0 _ _ hol fun m T2 h3 => ?_, hk⟩
              obtain ⟨rfl, rfl⟩ : T2 = T' ∧ m = xs.length := by
                rcases h3 with ⟨_, _, _, hq, rfl⟩ | ⟨_, _, _, _, _, hq, rfl⟩ | ⟨_, hq, _⟩ <;> rw [ho'] at hq <;> cases hq
                exact ⟨rfl, rfl⟩
              exact ⟨by omega, ti, 0, _, cap, hte, hu0, by omega⟩
          · cases h
        · cases h
    · cases h
  · cases h

/-! ### Slices of slices -/
theorem Rep.sub {a : Option Addr} {n cap : Nat} {T : TypeId} {xs : List (List D)} (h : Rep tt w S (.slice a n cap) (.list T xs)) {l r : Nat} (hlr : l ≤ r) (hr : r ≤ xs.length) (m cap' k : Nat)
    (hk : ∀ ti, tt T = some ti → k = ti.cells.length) (hm : m = l → r = l) (hcp' : r - l ≤ cap') :
    Rep tt w S (.slice (if m = l then a else a.map (·.add (l * k))) (r - l) cap') (.list T ((xs.take r).drop l)) := by
  cases h with
  | nil =>
    have h1 : r = 0 := by simpa using hr
    have h2 : l = 0 := by omega
    subst h1 h2
    exact .nil T _ _
  | list _ ti _ _ _ b off vs ht hd hk0 hcp hb hfit ha hc hrr =>
    have hkk := hk ti ht
    subst hkk
    have hlen : ((xs.take r).drop l).length = r - l := by simp; omega
    have hget : ∀ i, i < r - l → ((xs.take r).drop l).getD i [] = xs.getD (l + i) [] := fun i hi => by
      simp [List.getD_eq_getElem?_getD, show l + i < r by omega]
    rw [← hlen]
    refine .list T ti _ _ cap' b (off + l * ti.cells.length) (fun i j => vs (l + i) j) ht hd hk0 (by omega) (by omega) ?_ ?_ ?_ ?_
    · intro i hi
      rw [hlen] at hi
      rw [hget i hi]
      exact hfit _ (by omega)
    · intro h0
      rw [hlen] at h0
      obtain ⟨rfl, hS⟩ := ha (by omega)
      rw [if_neg (by omega)]
      exact ⟨by simp [Addr.add_lit], hS⟩
    · intro i j hi hj
      rw [hlen] at hi
      rw [show off + l * ti.cells.length + (i * ti.cells.length + j) = off + ((l + i) * ti.cells.length + j) by rw [Nat.add_mul]; omega]
      exact hc _ _ (by omega) hj
    · intro i j hi hj
      rw [hlen] at hi
      rw [hget i hi]
      exact hrr _ _ (by omega) hj
theorem slx_rep {e : TypeId} {cx : C} {v : Value} {xs : List (List D)} (h : slx e cx = some xs) (hx : RepC tt w S g os v cx) : ∃ a cap, v = .slice a xs.length cap ∧ Rep tt w S (.slice a xs.length cap) (.list e xs) := by
  unfold slx at h
  split at h
  · rename_i T ys
    cases hT : Nat.beq T e with
    | false => simp [hT] at h
    | true =>
      have hT' : T = e := Nat.eq_of_beq_eq_true hT
      simp only [hT, cond_true, Option.some.injEq] at h
      subst h hT'
      obtain ⟨a, cap, rfl⟩ := hx.d_inv.slice
      exact ⟨a, cap, rfl, hx.d_inv⟩
  · rename_i T ys
    cases hT : Nat.beq T e with
    | false => simp [hT] at h
    | true =>
      have hT' : T = e := Nat.eq_of_beq_eq_true hT
      simp only [hT, cond_true, Option.some.injEq] at h
      subst h hT'
      cases hx with
      | full a _ _ n hn h => subst hn; exact ⟨a, _, rfl, h⟩
  · cases h
theorem boundC_inv {o : Option C} {vo : Option Value} {d : Int} {l : Int} (hrel : Option.Rel (fun v x => RepC tt w S g os v x) vo o) (h : boundC d o = some l) : (vo = none ∧ o = none ∧ l = d) ∨ ∃ k, vo = some (.int k l) := by
  cases hrel with
  | none => simp only [boundC, Option.some.injEq] at h; exact .inl ⟨rfl, rfl, h.symm⟩
  | some hr =>
    simp only [boundC] at h
    obtain ⟨k, rfl⟩ := natC_inv h hr
    exact .inr ⟨k, rfl⟩

theorem evalSlice_sound (hT : TTok P tt) {E : Env} (hE : E.B.tt = tt) {T : TypeId} {s : St} {vx : Value} {cx : C} {lo hi mx : Option C} {vlo vhi vmx : Option Value} {Kv : C → R} (hI : Inv tt c w g s.objs)
    (h : evalSlice E T cx lo hi mx s Kv) (hx : RepC tt w (Now c w g s.objs.length) g s.objs vx cx)
    (hlo : Option.Rel (fun v x => RepC tt w (Now c w g s.objs.length) g s.objs v x) vlo lo) (hhi : Option.Rel (fun v x => RepC tt w (Now c w g s.objs.length) g s.objs v x) vhi hi) (hmx : Option.Rel (fun v x => RepC tt w (Now c w g s.objs.length) g s.objs v x) vmx mx) :
    ∃ v cv, (Instr.sliceAt T vx vlo vhi vmx).run P w = .ok v w ∧ RepC tt w (Now c w g s.objs.length) g s.objs v cv ∧ Kv cv := by
  unfold evalSlice at h
  rw [hE] at h
  split at h
  · -- with a third index
    rename_i m
    split at h
    · rename_i x hb1 hm
      split at h
      · rename_i e ks by' hti
        split at h
        · rename_i xs te hxs hte
          obtain ⟨a, cap, rfl, _⟩ := elems_rep hI hxs hx
          obtain ⟨info, hTi⟩ := hT T _ hti
          have hu := hTi.uk.1
          obtain ⟨ie, hTe⟩ := hT e _ hte
          have h2 : ∃ k, vhi = some (.int k 0) := by
            cases hhi with
            | some hr => exact ⟨_, by rw [hr.int_inv]⟩
          have h3 : ∃ k, vmx = some (.int k 0) := by
            cases hmx with
            | some hr => obtain ⟨k, rfl⟩ := natC_inv hm hr; exact ⟨k, rfl⟩
          obtain ⟨kh, rfl⟩ := h2
          obtain ⟨km, rfl⟩ := h3
          refine ⟨.slice a 0 0, .cap0, ?_, .cap0 a, h⟩
          rcases boundC_inv hlo hb1 with ⟨rfl, _, _⟩ | ⟨kl, rfl⟩ <;> simp [Instr.sliceAt, Instr.slice, run_underlying hu, Instr.sliceBounds, run_sliceBound, sizeOf, typeInfo, hTe.inf]
        · cases h
      · cases h
    · cases h
  · cases hmx
    split at h
    · rename_i ks by' hti
      obtain ⟨info, hTi⟩ := hT T _ hti
      have hu := hTi.uk.1
      split at h
      · rename_i t
        have hlb := hx.d_inv.str_le
        obtain rfl := hx.str_inv
        split at h
        · rename_i l r hl hr
          obtain ⟨⟨h0, h1, h2⟩, hfin⟩ := h
          refine ⟨_, _, ?_, rep_str _ (by simp; omega), hfin⟩
          have hbs : (Instr.sliceBounds false t.length t.length vlo vhi none).run P w = .ok (l.toNat, r.toNat, t.length) w := by
            rcases boundC_inv hlo hl with ⟨rfl, _, rfl⟩ | ⟨kl, rfl⟩ <;> rcases boundC_inv hhi hr with ⟨rfl, _, rfl⟩ | ⟨kh, rfl⟩
            · simp [Instr.sliceBounds]
            · have e1 : (r.toNat : Int) = r := Int.toNat_of_nonneg (by omega)
              simp [Instr.sliceBounds, run_sliceBound, h1, h2]
            · simp [Instr.sliceBounds, run_sliceBound, h0, h1]
            · have e1 : (r.toNat : Int) = r := Int.toNat_of_nonneg (by omega)
              simp [Instr.sliceBounds, run_sliceBound, h0, h1, h2, e1, show 0 ≤ r by omega]
          simp only [Instr.sliceAt, Sem.run_bind, run_underlying hu, Result.andThen_ok, Instr.slice, ba_size, hbs]
          simp only [Option.isSome_none, Bool.false_eq_true, if_false, Sem.run_bind, hbs, Result.andThen_ok, Sem.run_pure]
          rw [ba_extract]
        · cases h
      · cases h
    · rename_i e ks by' hti
      obtain ⟨info, hTi⟩ := hT T _ hti
      have hu := hTi.uk.1
      -- the run
      have run : ∀ {xs : List (List D)} {a : Option Addr} {cap : Nat} {te : TI} {l r : Int}, xs.length ≤ cap → tt e = some te → boundC 0 lo = some l → boundC xs.length hi = some r → 0 ≤ l → l ≤ r → r ≤ (xs.length : Int) →
          (Instr.sliceAt T (.slice a xs.length cap) vlo vhi none).run P w = .ok (.slice (if cap = l.toNat then a else a.map (·.add (l.toNat * te.cells.length))) (r.toNat - l.toNat) (cap - l.toNat)) w := by
        intro xs a cap te l r hcap hte hl hr h0 h1 h2
        obtain ⟨ie, hTe⟩ := hT e _ hte
        have e1 : (r.toNat : Int) = r := Int.toNat_of_nonneg (by omega)
        have hbs : (Instr.sliceBounds true xs.length cap vlo vhi none).run P w = .ok (l.toNat, r.toNat, cap) w := by
          rcases boundC_inv hlo hl with ⟨rfl, _, rfl⟩ | ⟨kl, rfl⟩ <;> rcases boundC_inv hhi hr with ⟨rfl, _, rfl⟩ | ⟨kh, rfl⟩
          · simp [Instr.sliceBounds]
          · simp [Instr.sliceBounds, run_sliceBound, h1, show r ≤ (cap : Int) by omega]
          · simp [Instr.sliceBounds, run_sliceBound, h0, h1]
          · simp [Instr.sliceBounds, run_sliceBound, h0, h1, e1, show 0 ≤ r by omega, show r ≤ (cap : Int) by omega]
        have hsz : (sizeOf e).run P w = .ok te.cells.length w := by simp [sizeOf, typeInfo, hTe.inf, hTe.size]
        simp only [Instr.sliceAt, Sem.run_bind, run_underlying hu, Result.andThen_ok, Instr.slice, hbs, hsz, Sem.run_pure]
      split at h
      · rename_i e' o ver i off
        split at h
        · rename_i xs te hxs hte
          split at h
          · rename_i l r hl hr
            obtain ⟨⟨h0, h1, h2⟩, hfin⟩ := h
            obtain ⟨a, cap, rfl, hbg, hle, _⟩ := elems_rep hI hxs hx
            refine ⟨_, _, run hle hte hl hr h0 h1 h2, ?_, hfin⟩
            unfold elems at hxs
            simp only at hxs
            split at hxs
            · rename_i T0 md ver' xs0 ho
              have ho' := getD_some ho (by simp)
              cases hb' : (Nat.beq e' e && (Nat.beq ver ver' && !md.isZ)) with
              | false => simp [hb'] at hxs
              | true =>
                simp only [hb', cond_true, Option.some.injEq] at hxs
                simp only [Bool.and_eq_true, Bool.not_eq_true'] at hb'
                have q1 := Nat.eq_of_beq_eq_true hb'.1
                subst q1
                generalize hv : Value.slice a xs.length cap = v0 at hx
                cases hx with
                | nst _ _ _ _ _ _ hol hn' hone =>
                  refine .nsl _ e' o ver i off l.toNat (r.toNat - l.toNat) hol (fun T2 ver2 m h3 => ⟨(hn' T2 ver2 m h3).1, fun hve => ?_⟩) rfl
                  obtain ⟨hv2, hi2, hti2⟩ := (hn' T2 ver2 m h3).2 hve
                  exact ⟨⟨te, hte, a, _, cap, by rw [← hv2, ← hv], by omega, rfl⟩, hi2, hti2⟩
            · rename_i K T0 md ver' es0 ho
              cases hb' : (Nat.beq e' e && (Nat.beq ver ver' && (!md.isZ && Nat.beq off 0))) with
              | false => simp [hb'] at hxs
              | true =>
                simp only [hb', cond_true, Option.some.injEq] at hxs
                simp only [Bool.and_eq_true, Bool.not_eq_true'] at hb'
                have q1 := Nat.eq_of_beq_eq_true hb'.1
                subst q1
                generalize hv : Value.slice a xs.length cap = v0 at hx
                cases hx with
                | nst _ _ _ _ _ _ hol hn' hone =>
                  refine .nsl _ e' o ver i off l.toNat (r.toNat - l.toNat) hol (fun T2 ver2 m h3 => ⟨(hn' T2 ver2 m h3).1, fun hve => ?_⟩) rfl
                  obtain ⟨hv2, hi2, hti2⟩ := (hn' T2 ver2 m h3).2 hve
                  exact ⟨⟨te, hte, a, _, cap, by rw [← hv2, ← hv], by omega, rfl⟩, hi2, hti2⟩
            · cases hxs
          · cases h
        · cases h
      · split at h
        · rename_i xs te hxs hte
          split at h
          · rename_i l r hl hr
            obtain ⟨⟨h0, h1, h2⟩, hfin⟩ := h
            obtain ⟨a, cap, rfl, hrep⟩ := slx_rep hxs hx
            have hcap := hrep.laid.2.1
            exact ⟨_, _, run hcap hte hl hr h0 h1 h2, .d _ _ (hrep.sub (l := l.toNat) (r := r.toNat) (by omega) (by omega) cap (cap - l.toNat) te.cells.length (fun ti ht => by rw [hte] at ht; cases ht; rfl) (fun hm => by omega) (by omega)), hfin⟩
          · cases h
        · cases h
    · cases h

/-! ### convert -/
theorem foldl_push (ns : List Int) (b : ByteArray) : ns.foldl (fun r n => r.push (UInt8.ofNat n.toNat)) b = ⟨b.data ++ (ns.map fun n => UInt8.ofNat n.toNat).toArray⟩ := by
  induction ns generalizing b with
  | nil => simp
  | cons n ns ih =>
    rw [List.foldl_cons, ih]
    apply ByteArray.ext
    simp [ByteArray.push]

theorem evalConv_sound (hT : TTok P tt) {E : Env} (hE : E.B.tt = tt) {src dst : TypeId} {s : St} {vx : Value} {cx : C} {Kv : C → R} (hI : Inv tt c w g s.objs)
    (h : evalConv E src dst cx s Kv) (hx : RepC tt w (Now c w g s.objs.length) g s.objs vx cx) :
    ∃ v cv, (convert src dst vx).run P w = .ok v w ∧ RepC tt w (Now c w g s.objs.length) g s.objs v cv ∧ Kv cv := by
  unfold evalConv at h
  rw [hE] at h
  split at h
  · rename_i j ks b k ks' b' h1 h2
    obtain ⟨_, i1⟩ := hT _ _ h1
    obtain ⟨_, i2⟩ := hT _ _ h2
    split at h
    · rename_i k0 n
      obtain rfl := hx.int_inv
      refine ⟨_, _, ?_, rep_int k (k.wrap n), h⟩
      simp [convert, run_underlying i1.uk.1, run_underlying i2.uk.1, Conv.intToInt]
    · cases h
  · rename_i ks b ks' b' h1 h2
    obtain ⟨_, i1⟩ := hT _ _ h1
    obtain ⟨_, i2⟩ := hT _ _ h2
    split at h
    · rename_i l
      have hlb := hx.d_inv.str_le
      obtain rfl := hx.str_inv
      refine ⟨_, _, ?_, rep_str l hlb, h⟩
      simp [convert, run_underlying i1.uk.1, run_underlying i2.uk.1]
    · cases h
  · rename_i e ks b ks' b' h1 h2
    obtain ⟨_, i1⟩ := hT _ _ h1
    obtain ⟨_, i2⟩ := hT _ _ h2
    split at h
    · rename_i b3 h3
      obtain ⟨_, i3⟩ := hT _ _ h3
      split at h
      · rename_i xs hxs
        obtain ⟨a, cap, rfl, hbg, _, hel⟩ := elems_rep hI hxs hx
        refine ⟨.string ⟨(strOf xs).toArray⟩, _, ?_, rep_str _ (by simpa [strOf] using hbg), h⟩
        have hconv : (convert src dst (.slice a xs.length cap)).run P w = (Conv.bytesToString (.slice a xs.length cap)).run P w := by
          cases a <;> simp [convert, run_underlying i1.uk.1, run_underlying i2.uk.1, run_underlying i3.uk.1]
        rw [hconv]
        rcases Nat.eq_zero_or_pos xs.length with h0 | h0
        · have hnil : xs = [] := List.eq_nil_of_length_eq_zero h0
          subst hnil
          cases a with
          | none => simp [Conv.bytesToString, strOf]; rfl
          | some a =>
            have := run_bytesToString (P := P) w a 0 cap [] (by
              have := run_loadCells (P := P) w a 0 (fun _ => Go.undef) (fun i hi => by omega)
              simpa using this)
            show (Conv.bytesToString (.slice (some a) 0 cap)).run P w = _
            rw [this]; rfl
        · obtain ⟨⟨ti, hti, hd, hk, hfit, bb, off, rfl, hlt, _, vs, hc, hr⟩, _⟩ := hel h0
          rw [h3] at hti
          simp only [Option.some.injEq] at hti
          subst hti
          have hval : ∀ i, i < xs.length → ∃ n, (xs.getD i []).getD 0 .z = .int .u8 n ∧ vs i 0 = .int .u8 n := by
            intro i hi
            obtain ⟨n, hn⟩ := fitsAll_at (hfit i hi) 0 (.int .u8) rfl
            refine ⟨n, hn, ?_⟩
            have := hr i 0 hi (by simp)
            rw [hn] at this
            exact this.int_inv
          have hcell : ∀ i, i < xs.length → w.cell? ((⟨bb, off, none⟩ : Addr).add i) = some (vs i 0) := by
            intro i hi
            have := hc i 0 hi (by simp)
            simpa [Addr.add_lit] using this
          have hload := run_loadCells (P := P) w ⟨bb, off, none⟩ xs.length (fun i => vs i 0) hcell
          have hmap : (List.range xs.length).map (fun i => vs i 0) = (xs.map fun x => getI (x.getD 0 .z)).map (Value.int .u8) := by
            apply List.ext_getElem
            · simp
            · intro i hi1 hi2
              have hi : i < xs.length := by simpa using hi1
              obtain ⟨n, hn, hv⟩ := hval i hi
              simp only [List.getElem_map, List.getElem_range, hv]
              have hg : xs.getD i [] = xs[i] := by simp [List.getD_eq_getElem?_getD, hi]
              rw [hg] at hn
              rw [hn]
              rfl
          rw [hmap] at hload
          rw [run_bytesToString w _ _ _ _ hload, foldl_push]
          simp [strOf, List.map_map, Function.comp_def]
      · cases h
    · cases h
  · cases h

end Go.Proofs.EN
/- Changes of what is owned. -/
namespace Go.Proofs.EN
open Go
set_option linter.unusedVariables false
set_option linter.unusedSimpArgs false
variable {tt : TypeId → Option TI} {P : Program} {c : Ctx} {w : World} {g : Gh} {os : List Ob} {S : Nat → Prop}

theorem RowX.mono {w w' : World} {S S' : Nat → Prop} {sk : Nat → Nat → Prop} {md : Md} {v : Value} {T : TypeId} {xs : List (List D)} {φ φ' : Nat → Prop} {ν : Nat → Nat → Value} (hS : ∀ b, S b → S' b ∧ w'.heap[b]? = w.heap[b]?)
    (hφ : ∀ b, φ b → φ' b ∧ w'.heap[b]? = w.heap[b]?) (h : RowX tt w S sk md v T xs φ ν) : RowX tt w' S' sk md v T xs φ' ν := by
  obtain ⟨a, cap, ti, rfl, ht, hd, hk, hfit, hle, hb, hc⟩ := h
  refine ⟨a, cap, ti, rfl, ht, hd, hk, hfit, hle, hb, fun h0 => ?_⟩
  obtain ⟨b, vs, φs, rfl, hh, hsz, hφb, hφs, hdj, hr, hν⟩ := hc h0
  exact ⟨b, vs, φs, rfl, (hφ b hφb).2.trans hh, hsz, (hφ b hφb).1, fun i j x hi hj hs hx => ⟨(hφ x (hφs i j x hi hj hs hx).1).1, (hφs i j x hi hj hs hx).2⟩, hdj,
    fun i j hi hj hs => (hr i j hi hj hs).mono hS fun x hx => ⟨hx, (hφ x (hφs i j x hi hj hs hx).1).2⟩, hν⟩
theorem MapX.mono {w w' : World} {S S' : Nat → Prop} {sk : Nat → Prop} {md : Md} {v : Value} {K V : TypeId} {es : List (D × D)} {φ φ' : Nat → Prop} {ν : Nat → Nat → Value} (hS : ∀ b, S b → S' b ∧ w'.heap[b]? = w.heap[b]?)
    (hφ : ∀ b, φ b → φ' b ∧ w'.heap[b]? = w.heap[b]?) (h : MapX tt w S sk md v K V es φ ν) : MapX tt w' S' sk md v K V es φ' ν := by
  obtain ⟨b, ents, clock, ck, cv, φs, rfl, hh, hk, hφb, hsz, hφs, hdj, hr⟩ := h
  refine ⟨b, ents, clock, ck, cv, φs, rfl, (hφ b hφb).2.trans hh, hk, (hφ b hφb).1, hsz, fun i x hi hs hx => ⟨(hφ x (hφs i x hi hs hx).1).1, (hφs i x hi hs hx).2⟩, hdj, fun i e he => ?_⟩
  obtain ⟨m, h1, h2, h3, h4, h5, h6⟩ := hr i e he
  exact ⟨m, h1, h2, h3, h4.mono hS, fun hs => (h5 hs).mono hS fun x hx => ⟨hx, (hφ x (hφs i x (List.getElem?_eq_some_iff.1 he).1 hs hx).1).2⟩, h6⟩
theorem RepO.mono {w w' : World} {S S' : Nat → Prop} {g g' : Gh} {os os' : List Ob} {o : Nat} (hS : ∀ b, S b → S' b ∧ w'.heap[b]? = w.heap[b]?) (hl : Later g os g' os') (hν : g'.ν o = g.ν o)
    {ob : Ob} {v : Value} (hb : ∀ b, g.φ o b → g'.φ o b ∧ w'.heap[b]? = w.heap[b]?) (h : RepO tt w S g os o ob v) : RepO tt w' S' g' os' o ob v := by
  cases ob with
  | dead => trivial
  | box cs =>
    obtain ⟨b, vs, T, rfl, hh, hsz, hr, h1, hφ⟩ := h
    exact ⟨b, vs, T, rfl, (hb b hφ).2.trans hh, hsz, fun i hi => (hr i hi).mono hS hl, h1, (hb b hφ).1⟩
  | row T md ver xs => simp only [RepO, hν]; exact RowX.mono hS hb h
  | hole T md ver xs i j => simp only [RepO, hν]; exact RowX.mono hS hb h
  | frz T xs => exact Rep.mono hS h
  | map K V md ver es => simp only [RepO, hν]; exact MapX.mono hS hb h
  | maph K V md ver es i => simp only [RepO, hν]; exact MapX.mono hS hb h

structure Chg (c : Ctx) (w : World) (g : Gh) (os : List Ob) (w' : World) (g' : Gh) (os' : List Ob) : Prop where
  len : g'.η.length = os'.length
  later : Later g os g' os'
  trk : ∀ b, Tracked g' os'.length b → Tracked g os.length b ∨ w.heap.size ≤ b
  lt : ∀ b, Tracked g' os'.length b → b < w'.heap.size
  heap : ∀ b, b < w.heap.size → ¬ Tracked g os.length b → w'.heap[b]? = w.heap[b]?
  size : w.heap.size ≤ w'.heap.size
  hos : w'.os = w.os
  tape : w'.tape = w.tape
  output : w'.output = w.output
  dj : ∀ (o o' : Nat) b, o < os'.length → o' < os'.length → g'.φ o b → g'.φ o' b → o = o'

theorem Later.refl (g : Gh) (os : List Ob) : Later g os g os := ⟨fun _ _ h => h, fun _ _ h => h, fun _ _ _ _ h => h, fun _ _ ver _ _ h => ⟨ver, Nat.le_refl _, h, fun _ => rfl⟩⟩
theorem Later.lt {g' : Gh} {os' : List Ob} (h : Later g os g' os') {o : Nat} (ho : o < g.η.length) : o < g'.η.length := by
  have := h.ext o (g.η[o]) (by simp [ho])
  exact (List.getElem?_eq_some_iff.1 this).1
theorem Later.trans {g' g'' : Gh} {os' os'' : List Ob} (h : Later g os g' os') (k : Later g' os' g'' os'') : Later g os g'' os'' :=
  ⟨fun o v hv => k.ext o v (h.ext o v hv), fun o ho hd => k.dead o (h.lt ho) (h.dead o ho hd), fun o T n ho hx => h.r3 o T n ho (k.r3 o T n (h.lt ho) hx), fun o T ver n ho hx => by
    obtain ⟨v1, l1, h1, h2⟩ := k.rh o T ver n (h.lt ho) hx
    obtain ⟨v0, l0, h3, h4⟩ := h.rh o T v1 n ho h1
    exact ⟨v0, by omega, h3, fun e => (h2 (by omega)).trans (h4 (by omega))⟩⟩

theorem Chg.now {w' : World} {g' : Gh} {os' : List Ob} (hI : Inv tt c w g os) (hc : Chg c w g os w' g' os') : ∀ b, Now c w g os.length b → Now c w' g' os'.length b ∧ w'.heap[b]? = w.heap[b]? := by
  intro b hb
  obtain ⟨hlt, hnt⟩ := hI.now_lt hb
  refine ⟨?_, hc.heap b hlt hnt⟩
  rcases hb with hb | ⟨h0, _, _⟩
  · exact .inl hb
  · refine .inr ⟨h0, Nat.lt_of_lt_of_le hlt hc.size, fun ht => ?_⟩
    rcases hc.trk b ht with h | h
    · exact hnt h
    · omega
theorem Chg.rep {w' : World} {g' : Gh} {os' : List Ob} (hI : Inv tt c w g os) (hc : Chg c w g os w' g' os') {v : Value} {x : C} (h : RepC tt w (Now c w g os.length) g os v x) : RepC tt w' (Now c w' g' os'.length) g' os' v x :=
  h.mono (hc.now hI) hc.later
theorem Chg.inv {w' : World} {g' : Gh} {os' : List Ob} (hI : Inv tt c w g os) (hc : Chg c w g os w' g' os')
    (hob : ∀ (o : Nat) ob v, os'[o]? = some ob → g'.η[o]? = some v → (os[o]? = some ob ∧ o < g.η.length ∧ g'.ν o = g.ν o ∧ ∀ b, g.φ o b → g'.φ o b ∧ w'.heap[b]? = w.heap[b]?) ∨ RepO tt w' (Now c w' g' os'.length) g' os' o ob v) : Inv tt c w' g' os' := by
  refine ⟨hc.len, fun o ob v h1 h2 => ?_, hc.dj, fun o b ho hb => ?_, ?_, hI.s0, hI.tab⟩
  · rcases hob o ob v h1 h2 with ⟨h3, h4, h5, h6⟩ | h
    · have h7 : g.η[o]? = some v := by
        have := hc.later.ext o (g.η[o]) (by simp [h4])
        rw [h2] at this
        cases this
        simp [h4]
      exact (hI.ob o ob v h3 h7).mono (hc.now hI) hc.later h5 h6
    · exact h
  · refine ⟨?_, hc.lt b ⟨o, ho, hb⟩⟩
    rcases hc.trk b ⟨o, ho, hb⟩ with ⟨o', ho', h⟩ | h
    · exact (hI.own o' b ho' h).1
    · exact .inl (Nat.le_trans hI.kept.size h)
  · refine ⟨hc.hos.trans hI.kept.os, hc.tape.trans hI.kept.tape, hc.output.trans hI.kept.output, Nat.le_trans hI.kept.size hc.size, fun b hb hX => ?_⟩
    have hnt : ¬ Tracked g os.length b := fun ⟨o, ho, ht⟩ => by
      rcases (hI.own o b ho ht).1 with h | h
      · omega
      · exact hX h
    exact (hc.heap b (Nat.lt_of_lt_of_le hb hI.kept.size) hnt).trans (hI.kept.block b hb hX)
theorem RepSt.chg {nt : Nat} {a : Act} {s : St} (h : RepSt tt c w g nt a s) {w' : World} {g' : Gh} {os' : List Ob} (hc : Chg c w g s.objs w' g' os')
    (hob : ∀ (o : Nat) ob v, os'[o]? = some ob → g'.η[o]? = some v → (s.objs[o]? = some ob ∧ o < g.η.length ∧ g'.ν o = g.ν o ∧ ∀ b, g.φ o b → g'.φ o b ∧ w'.heap[b]? = w.heap[b]?) ∨ RepO tt w' (Now c w' g' os'.length) g' os' o ob v) : RepSt tt c w' g' nt a ⟨s.tmps, os'⟩ :=
  ⟨hc.inv h.inv hob, h.dfr, h.len, fun i => hc.rep h.inv (h.tmp i)⟩

theorem getElem?_snoc {α : Type} {l : List α} {x y : α} {i : Nat} (h : (l ++ [x])[i]? = some y) : (i < l.length ∧ l[i]? = some y) ∨ (i = l.length ∧ y = x) := by
  rcases Nat.lt_or_ge i l.length with hi | hi
  · rw [List.getElem?_append_left hi] at h
    exact .inl ⟨hi, h⟩
  · rw [List.getElem?_append_right hi] at h
    rcases Nat.eq_or_lt_of_le hi with he | hl
    · subst he
      simp at h
      exact .inr ⟨rfl, h.symm⟩
    · have : i - l.length ≠ 0 := by omega
      cases hq : i - l.length with
      | zero => exact absurd hq this
      | succ n => rw [hq] at h; simp at h
theorem isR3_same {os' : List Ob} {o : Nat} {T : TypeId} {n : Nat} (h : os'[o]? = os[o]?) (hx : isR3 os' o T n) : isR3 os o T n := by
  unfold isR3 at hx ⊢; rwa [h] at hx
theorem isRH_same {os' : List Ob} {o : Nat} {T : TypeId} {ver n : Nat} (h : os'[o]? = os[o]?) (hx : isRH os' o T ver n) : isRH os o T ver n := by
  unfold isRH at hx ⊢; rwa [h] at hx

/-! ### A new object -/
/-- Blocks of the dead may go to it. -/
def Gh.new (g : Gh) (v : Value) (ν0 : Nat → Nat → Value) (φ0 Ψ : Nat → Prop) : Gh :=
  { η := g.η ++ [v], ν := fun k => if k = g.η.length then ν0 else g.ν k, φ := fun k b => if k = g.η.length then φ0 b else g.φ k b ∧ ¬ Ψ b }
theorem Chg.new (hI : Inv tt c w g os) {w' : World} {ob : Ob} {v : Value} {ν0 : Nat → Nat → Value} {φ0 Ψ : Nat → Prop} (hsize : w.heap.size ≤ w'.heap.size) (hheap : ∀ b, b < w.heap.size → ¬ Ψ b → w'.heap[b]? = w.heap[b]?)
    (hos : w'.os = w.os) (ht : w'.tape = w.tape) (ho : w'.output = w.output) (hΨ : ∀ b, Ψ b → ∃ m, os[m]? = some .dead ∧ g.φ m b) (hφ : ∀ b, φ0 b → Ψ b ∨ (w.heap.size ≤ b ∧ b < w'.heap.size)) :
    Chg c w g os w' (g.new v ν0 φ0 Ψ) (os ++ [ob]) := by
  have hl := hI.len
  have old : ∀ o, o < os.length → (os ++ [ob])[o]? = os[o]? := fun o ho => by rw [List.getElem?_append_left ho]
  have φold : ∀ {o b}, o < os.length → (g.new v ν0 φ0 Ψ).φ o b → g.φ o b ∧ ¬ Ψ b := fun {o b} ho h => by
    simp only [Gh.new, if_neg (show o ≠ g.η.length by omega)] at h
    exact h
  have φnew : ∀ {b}, (g.new v ν0 φ0 Ψ).φ os.length b → φ0 b := fun {b} h => by
    simp only [Gh.new, if_pos hl.symm] at h
    exact h
  have cls : ∀ b, Tracked (g.new v ν0 φ0 Ψ) (os ++ [ob]).length b → (Tracked g os.length b ∧ b < w'.heap.size) ∨ (w.heap.size ≤ b ∧ b < w'.heap.size) := by
    rintro b ⟨o, ho', h⟩
    rw [List.length_append, List.length_singleton] at ho'
    rcases Nat.lt_or_ge o os.length with hlt | hge
    · have := (φold hlt h).1
      exact .inl ⟨⟨o, hlt, this⟩, Nat.lt_of_lt_of_le (hI.own o b hlt this).2 hsize⟩
    · have he : o = os.length := by omega
      subst he
      rcases hφ b (φnew h) with h | h
      · obtain ⟨m, h1, h2⟩ := hΨ b h
        exact .inl ⟨⟨m, ob_lt h1, h2⟩, Nat.lt_of_lt_of_le (hI.own m b (ob_lt h1) h2).2 hsize⟩
      · exact .inr h
  refine ⟨by simp [Gh.new, hl], ⟨fun o u hu => ?_, fun o ho' hd => ?_, fun o T n ho' hx => ?_, fun o T ver n ho' hx => ?_⟩, fun b hb => ?_, fun b hb => ?_, fun b hb hnt => hheap b hb fun hp => ?_, hsize, hos, ht, ho, fun o o' b h1 h2 h3 h4 => ?_⟩
  · have := (List.getElem?_eq_some_iff.1 hu).1
    simp only [Gh.new]
    rw [List.getElem?_append_left this]; exact hu
  · rw [old o (by omega)]; exact hd
  · exact isR3_same (old o (by omega)) hx
  · exact ⟨ver, Nat.le_refl _, isRH_same (old o (by omega)) hx, fun _ => by simp [Gh.new, show o ≠ g.η.length by omega]⟩
  · rcases cls b hb with h | h
    · exact .inl h.1
    · exact .inr h.1
  · rcases cls b hb with h | h
    · exact h.2
    · exact h.2
  · obtain ⟨m, h1, h2⟩ := hΨ b hp
    exact hnt ⟨m, ob_lt h1, h2⟩
  · rw [List.length_append, List.length_singleton] at h1 h2
    have key : ∀ {o : Nat}, o < os.length → (g.new v ν0 φ0 Ψ).φ o b → (g.new v ν0 φ0 Ψ).φ os.length b → False := by
      intro o hlt h5 h6
      obtain ⟨h7, h8⟩ := φold hlt h5
      rcases hφ b (φnew h6) with h | h
      · exact h8 h
      · have := (hI.own o b hlt h7).2
        omega
    rcases Nat.lt_or_ge o os.length with hlt | hge <;> rcases Nat.lt_or_ge o' os.length with hlt' | hge'
    · exact hI.dj o o' b hlt hlt' (φold hlt h3).1 (φold hlt' h4).1
    · have he : o' = os.length := by omega
      subst he
      exact (key hlt h3 h4).elim
    · have he : o = os.length := by omega
      subst he
      exact (key hlt' h4 h3).elim
    · omega
theorem RepSt.new {nt : Nat} {a : Act} {s : St} (h : RepSt tt c w g nt a s) {w' : World} {ob : Ob} {v : Value} {ν0 : Nat → Nat → Value} {φ0 Ψ : Nat → Prop} (hsize : w.heap.size ≤ w'.heap.size) (hheap : ∀ b, b < w.heap.size → ¬ Ψ b → w'.heap[b]? = w.heap[b]?)
    (hos : w'.os = w.os) (ht : w'.tape = w.tape) (ho : w'.output = w.output) (hΨ : ∀ b, Ψ b → ∃ m, s.objs[m]? = some .dead ∧ g.φ m b) (hφ : ∀ b, φ0 b → Ψ b ∨ (w.heap.size ≤ b ∧ b < w'.heap.size))
    (hrep : RepO tt w' (Now c w' (g.new v ν0 φ0 Ψ) (s.objs ++ [ob]).length) (g.new v ν0 φ0 Ψ) (s.objs ++ [ob]) s.objs.length ob v) : RepSt tt c w' (g.new v ν0 φ0 Ψ) nt a ⟨s.tmps, s.objs ++ [ob]⟩ := by
  have hl := h.inv.len
  refine h.chg (.new h.inv hsize hheap hos ht ho hΨ hφ) fun i ob' v' h1 h2 => ?_
  have A1 := getElem?_snoc h1
  have A2 := getElem?_snoc h2
  rcases A1 with ⟨l1, A1⟩ | ⟨l1, A1⟩ <;> rcases A2 with ⟨l2, A2⟩ | ⟨l2, A2⟩
  · by_cases hd : ob' = .dead
    · subst hd; exact .inr trivial
    · refine .inl ⟨A1, l2, by simp [Gh.new, show i ≠ g.η.length by omega], fun b hb => ?_⟩
      have hn : ¬ Ψ b := fun hp => by
        obtain ⟨m, h3, h4⟩ := hΨ b hp
        have := h.inv.dj i m b l1 (ob_lt h3) hb h4
        subst this
        rw [A1] at h3
        cases h3
        exact hd rfl
      exact ⟨by simp [Gh.new, show i ≠ g.η.length by omega, hb, hn], hheap b (h.inv.own i b l1 hb).2 hn⟩
  · omega
  · omega
  · subst l1
    rw [A1, A2]
    exact .inr hrep

/-! ### An object that changes -/
def Gh.upd (g : Gh) (o : Nat) (ν0 : Nat → Nat → Value) (φ0 Ψ : Nat → Prop) : Gh :=
  { η := g.η, ν := fun k => if k = o then ν0 else g.ν k, φ := fun k b => if k = o then φ0 b else g.φ k b ∧ ¬ Ψ b }
theorem Chg.upd (hI : Inv tt c w g os) {o : Nat} {ob0 ob : Ob} (ho0 : os[o]? = some ob0) (hd0 : ob0 ≠ .dead) {w' : World} {ν0 : Nat → Nat → Value} {φ0 Ψ : Nat → Prop} (hsize : w.heap.size ≤ w'.heap.size)
    (hheap : ∀ b, b < w.heap.size → ¬ Ψ b → ¬ g.φ o b → w'.heap[b]? = w.heap[b]?) (hos : w'.os = w.os) (ht : w'.tape = w.tape) (ho : w'.output = w.output)
    (hΨ : ∀ b, Ψ b → ∃ m, os[m]? = some .dead ∧ g.φ m b) (hφ : ∀ b, φ0 b → g.φ o b ∨ Ψ b ∨ (w.heap.size ≤ b ∧ b < w'.heap.size))
    (h3 : ∀ T n, isR3 (os.set o ob) o T n → isR3 os o T n) (hrh : ∀ T ver' n, isRH (os.set o ob) o T ver' n → ∃ ver, ver ≤ ver' ∧ isRH os o T ver n ∧ (ver' = ver → ν0 = g.ν o)) :
    Chg c w g os w' (g.upd o ν0 φ0 Ψ) (os.set o ob) := by
  have hl := hI.len
  have hol := ob_lt ho0
  have other : ∀ i, i ≠ o → (os.set o ob)[i]? = os[i]? := fun i hi => List.getElem?_set_ne (Ne.symm hi)
  have φo : ∀ {b}, (g.upd o ν0 φ0 Ψ).φ o b → φ0 b := fun {b} h => by simpa [Gh.upd] using h
  have φk : ∀ {k b}, k ≠ o → (g.upd o ν0 φ0 Ψ).φ k b → g.φ k b ∧ ¬ Ψ b := fun {k b} hk h => by simpa [Gh.upd, hk] using h
  have cls : ∀ b, Tracked (g.upd o ν0 φ0 Ψ) (os.set o ob).length b → (Tracked g os.length b ∧ b < w'.heap.size) ∨ (w.heap.size ≤ b ∧ b < w'.heap.size) := by
    rintro b ⟨k, hk, h⟩
    rw [List.length_set] at hk
    by_cases hko : k = o
    · subst hko
      rcases hφ b (φo h) with h | h | h
      · exact .inl ⟨⟨k, hk, h⟩, Nat.lt_of_lt_of_le (hI.own k b hk h).2 hsize⟩
      · obtain ⟨m, h1, h2⟩ := hΨ b h
        exact .inl ⟨⟨m, ob_lt h1, h2⟩, Nat.lt_of_lt_of_le (hI.own m b (ob_lt h1) h2).2 hsize⟩
      · exact .inr h
    · have := (φk hko h).1
      exact .inl ⟨⟨k, hk, this⟩, Nat.lt_of_lt_of_le (hI.own k b hk this).2 hsize⟩
  refine ⟨by simp [Gh.upd, hl], ⟨fun _ _ h => h, fun i hi hd => ?_, fun i T n hi hx => ?_, fun i T ver n hi hx => ?_⟩, fun b hb => ?_, fun b hb => ?_, fun b hb hnt => hheap b hb (fun hp => ?_) (fun hp => hnt ⟨o, hol, hp⟩), hsize, hos, ht, ho, fun i i' b h1 h2 h4 h5 => ?_⟩
  · by_cases hio : i = o
    · subst hio; rw [ho0] at hd; cases hd; exact absurd rfl hd0
    · rw [other i hio]; exact hd
  · by_cases hio : i = o
    · subst hio; exact h3 T n hx
    · exact isR3_same (other i hio) hx
  · by_cases hio : i = o
    · subst hio
      obtain ⟨v0, l0, h1, h2⟩ := hrh T ver n hx
      exact ⟨v0, l0, h1, fun e => by simp [Gh.upd, h2 e]⟩
    · exact ⟨ver, Nat.le_refl _, isRH_same (other i hio) hx, fun _ => by simp [Gh.upd, hio]⟩
  · rcases cls b hb with h | h
    · exact .inl h.1
    · exact .inr h.1
  · rcases cls b hb with h | h
    · exact h.2
    · exact h.2
  · obtain ⟨m, h1, h2⟩ := hΨ b hp
    exact hnt ⟨m, ob_lt h1, h2⟩
  · rw [List.length_set] at h1 h2
    have key : ∀ {k : Nat}, k < os.length → k ≠ o → (g.upd o ν0 φ0 Ψ).φ k b → (g.upd o ν0 φ0 Ψ).φ o b → False := by
      intro k hlt hko h5 h6
      obtain ⟨h7, h8⟩ := φk hko h5
      rcases hφ b (φo h6) with h | h | h
      · exact hko (hI.dj k o b hlt hol h7 h)
      · exact h8 h
      · have := (hI.own k b hlt h7).2
        omega
    by_cases hio : i = o <;> by_cases hio' : i' = o
    · rw [hio, hio']
    · subst hio; exact (key h2 hio' h5 h4).elim
    · subst hio'; exact (key h1 hio h4 h5).elim
    · exact hI.dj i i' b h1 h2 (φk hio h4).1 (φk hio' h5).1
theorem RepSt.upd {nt : Nat} {a : Act} {s : St} (h : RepSt tt c w g nt a s) {o : Nat} {ob0 ob : Ob} (ho0 : s.objs[o]? = some ob0) (hd0 : ob0 ≠ .dead) {w' : World} {ν0 : Nat → Nat → Value} {φ0 Ψ : Nat → Prop} (hsize : w.heap.size ≤ w'.heap.size)
    (hheap : ∀ b, b < w.heap.size → ¬ Ψ b → ¬ g.φ o b → w'.heap[b]? = w.heap[b]?) (hos : w'.os = w.os) (ht : w'.tape = w.tape) (ho : w'.output = w.output)
    (hΨ : ∀ b, Ψ b → ∃ m, s.objs[m]? = some .dead ∧ g.φ m b) (hφ : ∀ b, φ0 b → g.φ o b ∨ Ψ b ∨ (w.heap.size ≤ b ∧ b < w'.heap.size))
    (h3 : ∀ T n, isR3 (s.objs.set o ob) o T n → isR3 s.objs o T n) (hrh : ∀ T ver' n, isRH (s.objs.set o ob) o T ver' n → ∃ ver, ver ≤ ver' ∧ isRH s.objs o T ver n ∧ (ver' = ver → ν0 = g.ν o))
    (hrep : ∀ v, g.η[o]? = some v → RepO tt w' (Now c w' (g.upd o ν0 φ0 Ψ) (s.objs.set o ob).length) (g.upd o ν0 φ0 Ψ) (s.objs.set o ob) o ob v) :
    RepSt tt c w' (g.upd o ν0 φ0 Ψ) nt a ⟨s.tmps, s.objs.set o ob⟩ := by
  have hol := ob_lt ho0
  refine h.chg (.upd h.inv ho0 hd0 hsize hheap hos ht ho hΨ hφ h3 hrh) fun i ob' v' h1 h2 => ?_
  by_cases hio : i = o
  · subst hio
    rw [List.getElem?_set_self hol] at h1
    cases h1
    exact .inr (hrep v' h2)
  · rw [List.getElem?_set_ne (Ne.symm hio)] at h1
    by_cases hd : ob' = .dead
    · subst hd; exact .inr trivial
    · have hil := ob_lt h1
      refine .inl ⟨h1, by have := h.inv.len; omega, by simp [Gh.upd, hio], fun b hb => ?_⟩
      have hn : ¬ Ψ b := fun hp => by
        obtain ⟨m, h3, h4⟩ := hΨ b hp
        have := h.inv.dj i m b hil (ob_lt h3) hb h4
        subst this
        rw [h1] at h3
        cases h3
        exact hd rfl
      exact ⟨by simp [Gh.upd, hio, hb, hn], hheap b (h.inv.own i b hil hb).2 hn fun hp => hio (h.inv.dj i o b hil hol hb hp)⟩

/-- An object that is given up keeps its blocks for whoever takes them. -/
theorem Chg.die (hI : Inv tt c w g os) {o : Nat} {ob0 : Ob} (ho0 : os[o]? = some ob0) : Chg c w g os w g (os.set o .dead) := by
  have hol := ob_lt ho0
  have other : ∀ i, i ≠ o → (os.set o .dead)[i]? = os[i]? := fun i hi => List.getElem?_set_ne (Ne.symm hi)
  have self : (os.set o .dead)[o]? = some .dead := List.getElem?_set_self hol
  refine ⟨by simp [hI.len], ⟨fun _ _ h => h, fun i hi hd => ?_, fun i T n hi hx => ?_, fun i T ver n hi hx => ?_⟩, fun b hb => .inl (by rwa [List.length_set] at hb), fun b ⟨k, hk, h⟩ => (hI.own k b (by rwa [List.length_set] at hk) h).2, fun _ _ _ => rfl, Nat.le_refl _, rfl, rfl, rfl, fun i i' b h1 h2 => hI.dj i i' b (by simpa using h1) (by simpa using h2)⟩
  · by_cases hio : i = o
    · subst hio; exact self
    · rw [other i hio]; exact hd
  · by_cases hio : i = o
    · subst hio
      rcases hx with ⟨_, _, _, h, _⟩ | ⟨_, _, _, _, _, h, _⟩ | ⟨_, h, _⟩ <;> rw [self] at h <;> cases h
    · exact isR3_same (other i hio) hx
  · by_cases hio : i = o
    · subst hio
      rcases hx with ⟨_, _, h, _⟩ | ⟨_, _, _, _, h, _⟩ | ⟨_, _, _, h, _⟩ | ⟨_, _, _, _, h, _⟩ <;> rw [self] at h <;> cases h
    · exact ⟨ver, Nat.le_refl _, isRH_same (other i hio) hx, fun _ => rfl⟩
theorem RepSt.die {nt : Nat} {a : Act} {s : St} (h : RepSt tt c w g nt a s) {o : Nat} {ob0 : Ob} (ho0 : s.objs[o]? = some ob0) : RepSt tt c w g nt a ⟨s.tmps, s.objs.set o .dead⟩ := by
  refine h.chg (.die h.inv ho0) fun i ob' v' h1 h2 => ?_
  by_cases hio : i = o
  · subst hio
    rw [List.getElem?_set_self (ob_lt ho0)] at h1
    cases h1
    exact .inr trivial
  · rw [List.getElem?_set_ne (Ne.symm hio)] at h1
    exact .inl ⟨h1, by have := h.inv.len; have := ob_lt h1; omega, rfl, fun b hb => ⟨hb, rfl⟩⟩

/-- A row becomes plain data. -/
theorem frz_step {nt : Nat} {a : Act} {s : St} (h : RepSt tt c w g nt a s) {o : Nat} {T : TypeId} {md : Md} {ver : Nat} {xs : List (List D)} (ho0 : s.objs[o]? = some (.row T md ver xs)) :
    let g' := g.upd o (g.ν o) (fun _ => False) (fun _ => False)
    RepSt tt c w g' nt a ⟨s.tmps, s.objs.set o (.frz T xs)⟩ ∧ Chg c w g s.objs w g' (s.objs.set o (.frz T xs)) ∧ ∀ v, g.η[o]? = some v → Rep tt w (Now c w g' (s.objs.set o (.frz T xs)).length) v (.list T xs) := by
  intro g'
  have hol := ob_lt ho0
  have self : (s.objs.set o (.frz T xs))[o]? = some (.frz T xs) := List.getElem?_set_self hol
  have h3 : ∀ T2 n, isR3 (s.objs.set o (.frz T xs)) o T2 n → isR3 s.objs o T2 n := fun T2 n hx => by
    obtain ⟨rfl, rfl⟩ := isR3_frz self hx
    exact .inl ⟨md, ver, xs, ho0, rfl⟩
  have hrh : ∀ T2 ver2 n, isRH (s.objs.set o (.frz T xs)) o T2 ver2 n → ∃ ver, ver ≤ ver2 ∧ isRH s.objs o T2 ver n ∧ (ver2 = ver → g.ν o = g.ν o) := fun T2 ver2 n hx => by
    rcases hx with ⟨_, _, h, _⟩ | ⟨_, _, _, _, h, _⟩ | ⟨_, _, _, h, _⟩ | ⟨_, _, _, _, h, _⟩ <;> rw [self] at h <;> cases h
  have hc : Chg c w g s.objs w g' (s.objs.set o (.frz T xs)) := .upd h.inv ho0 (by simp) (Nat.le_refl _) (fun _ _ _ _ => rfl) rfl rfl rfl (fun b hb => hb.elim) (fun b hb => hb.elim) h3 hrh
  have hr : ∀ v, g.η[o]? = some v → Rep tt w (Now c w g' (s.objs.set o (.frz T xs)).length) v (.list T xs) := fun v hv => by
    refine (h.inv.ob o _ v ho0 hv).repW.frz (fun b hb => (hc.now h.inv b hb).1) fun b hb => .inr ?_
    have := h.inv.own o b hol hb
    refine ⟨this.1, this.2, ?_⟩
    rintro ⟨k, hk, hkb⟩
    rw [List.length_set] at hk
    by_cases hko : k = o
    · subst hko; simp [g', Gh.upd] at hkb
    · simp only [g', Gh.upd, if_neg hko] at hkb
      exact hko (h.inv.dj k o b hk hol hkb.1 hb)
  exact ⟨h.upd ho0 (by simp) (Nat.le_refl _) (fun _ _ _ _ => rfl) rfl rfl rfl (fun b hb => hb.elim) (fun b hb => hb.elim) h3 hrh hr, hc, hr⟩

end Go.Proofs.EN
