/- Contracts of functions of this program, by the evaluator EN. No conditions but those that each theorem states. -/
import Derived.Test.YtekcghhacpllaaaGreatDoorEN4
/- Loads, places, slices. -/
namespace Go.Proofs.EN
open Go
set_option linter.unusedVariables false
set_option linter.unusedSimpArgs false
variable {tt : TypeId → Option TI} {P : Program} {c : Ctx} {w : World} {g : Gh} {os : List Ob} {S : Nat → Prop}

theorem natC_inv {v : Value} {cx : C} {n : Int} (h : natC cx = some n) (hx : RepC tt w S g os v cx) : ∃ k, v = .int k n := by
  unfold natC at h
  split at h
  · simp only [Option.some.injEq] at h
    subst h
    exact ⟨_, hx.int_inv⟩
  · cases h

/-! ### Loads -/
theorem mkC_rep {ag : Bool} {cs : List C} {cv : C} {vs : Array Value} (h : mkC ag cs = some cv) (hl : vs.size = cs.length) (hr : ∀ i, i < cs.length → RepC tt w S g os (vs.getD i Go.undef) (cs.getD i .undef)) :
    RepC tt w S g os (if ag then .agg vs else vs.getD 0 Go.undef) cv := by
  unfold mkC at h
  cases ag with
  | true =>
    simp only [cond_true, Option.some.injEq] at h
    subst h
    exact .agg cs vs hl hr
  | false =>
    simp only [cond_false] at h
    split at h
    · simp only [Option.some.injEq] at h
      subst h
      simpa using hr 0 (by simp)
    · cases h

theorem run_isAgg {ti : TI} {T : TypeId} {info : TypeInfo} (hi : TIok P T ti info) : (isAgg T).run P w = .ok ti.uk.isAgg w := by
  unfold isAgg
  have := hi.uk
  cases hu : ti.uk with
  | bool => rw [hu] at this; simp [run_underlying this.1, UK.isAgg]
  | int k => rw [hu] at this; simp [run_underlying this.1, UK.isAgg]
  | str => rw [hu] at this; simp [run_underlying this.1, UK.isAgg]
  | slice e => rw [hu] at this; simp [run_underlying this.1, UK.isAgg]
  | ptr e => rw [hu] at this; simp [run_underlying this.1, UK.isAgg]
  | struct fs => rw [hu] at this; obtain ⟨fields, h1, _⟩ := this; simp [run_underlying h1, UK.isAgg]
  | func => rw [hu] at this; obtain ⟨⟨_, _, _, h1⟩, _⟩ := this; simp [run_underlying h1, UK.isAgg]
  | map => rw [hu] at this; obtain ⟨h1, _⟩ := this; simp [run_underlying h1, UK.isAgg]
  | iface => rw [hu] at this; obtain ⟨⟨_, h1⟩, _⟩ := this; simp [run_underlying h1, UK.isAgg]
  | tuple ts => rw [hu] at this; obtain ⟨_, h1⟩ := this; simp [run_underlying h1, UK.isAgg]

theorem run_loadVar {ti : TI} {T : TypeId} {info : TypeInfo} (hi : TIok P T ti info) (b off : Nat) (vs : Array Value) (hl : vs.size = ti.cells.length)
    (h1 : ti.uk.isAgg = false → ti.cells.length = 1)
    (hc : ∀ j, j < ti.cells.length → w.cell? ⟨b, off + j, none⟩ = some (vs.getD j Go.undef)) :
    (loadVar T ⟨b, off, none⟩).run P w = .ok (if ti.uk.isAgg then .agg vs else vs.getD 0 Go.undef) w := by
  unfold loadVar
  have hsz : (sizeOf T).run P w = .ok ti.cells.length w := by simp [sizeOf, typeInfo, hi.inf, hi.size]
  simp only [Sem.run_bind, run_isAgg hi, Result.andThen_ok]
  cases ha : ti.uk.isAgg with
  | true =>
    have hld : (loadCells ⟨b, off, none⟩ vs.toList.length).run P w = .ok vs.toList.toArray w :=
      run_loadCells_list (P := P) w ⟨b, off, none⟩ vs.toList (fun j v hv => by
        obtain ⟨hj, hv'⟩ := List.getElem?_eq_some_iff.1 hv
        have hj' : j < vs.size := by simpa using hj
        rw [Addr.add_lit, hc j (by omega)]
        simp [Array.getD, hj']
        simpa using hv')
    have hl' : vs.toList.length = ti.cells.length := by simpa using hl
    rw [hl'] at hld
    simp [hsz, hld]
  | false =>
    have := hc 0 (by have := h1 ha; omega)
    simp only [Nat.add_zero] at this
    simp [this]

theorem mkC_one {ag : Bool} {cs : List C} {cv : C} (h : mkC ag cs = some cv) : ag = false → cs.length = 1 := by
  intro ha
  subst ha
  unfold mkC at h
  simp only [cond_false] at h
  split at h
  · rfl
  · cases h

theorem kCells_length : ∀ (ks : List CK) (ds : List D) (i : Nat), (kCells ks ds i).length = ks.length
  | [], _, _ => rfl
  | k :: ks, ds, i => by simp [kCells, kCells_length ks ds (i + 1)]
theorem kCells_getD : ∀ (ks : List CK) (ds : List D) (i j : Nat), j < ks.length → (kCells ks ds i).getD j .undef = .d ((ks.getD j .other).norm (ds.getD (i + j) .z))
  | [], _, _, _, h => by simp at h
  | k :: ks, ds, i, 0, _ => by simp [kCells]
  | k :: ks, ds, i, j + 1, h => by
    have := kCells_getD ks ds (i + 1) j (by simpa using h)
    simp only [kCells, List.getD_cons_succ, this]
    rw [show i + 1 + j = i + (j + 1) from by omega]
theorem CK.beq_eq {a b : CK} (h : a.beq b = true) : a = b := by
  cases a <;> cases b <;> simp [CK.beq] at h <;> first | rfl | (rw [ikBeq_eq h]) | (rw [h])
theorem ksBeq_eq : ∀ {a b : List CK}, ksBeq a b = true → a = b
  | [], [], _ => rfl
  | a :: x, b :: y, h => by
    simp only [ksBeq, Bool.and_eq_true] at h
    rw [CK.beq_eq h.1, ksBeq_eq h.2]

theorem bif_some {b : Bool} {x : Prop} (h : (bif b then x else False)) : b = true ∧ x := by
  cases b
  · cases h
  · exact ⟨rfl, h⟩


theorem rCells_length (o ver i : Nat) (z : Bool) : ∀ (ks : List CK) (ds : List D) (j : Nat), (rCells o ver i z ks ds j).length = ks.length
  | [], _, _ => rfl
  | k :: ks, ds, j => by simp [rCells, rCells_length o ver i z ks ds (j + 1)]
theorem rCells_getD (o ver i : Nat) (z : Bool) : ∀ (ks : List CK) (ds : List D) (p j : Nat), j < ks.length → (rCells o ver i z ks ds p).getD j .undef = rCell o ver i z (ks.getD j .other) ds (p + j)
  | [], _, _, _, h => by simp at h
  | k :: ks, ds, p, 0, _ => by simp [rCells]
  | k :: ks, ds, p, j + 1, h => by
    have := rCells_getD o ver i z ks ds (p + 1) j (by simpa using h)
    simp only [rCells, List.getD_cons_succ, this]
    rw [show p + 1 + j = p + (j + 1) from by omega]

/-- A load of some cells of plain data. -/
theorem load_laid (hT : TTok P tt) {T : TypeId} {ti ti' : TI} (hti : tt T = some ti) {ks : List CK} {off : Nat} (hks : (ks.drop off).take ti.cells.length = ti.cells) {cs : List C} {cv : C} (hmk : mkC ti.uk.isAgg cs = some cv) (hcl : cs.length = ti.cells.length)
    {b o2 : Nat} {us : Nat → Value} (hc : ∀ j, j < ks.length → w.cell? ⟨b, o2 + j, none⟩ = some (us j)) (hr : ∀ j, j < ti.cells.length → off + j < ks.length → RepC tt w S g os (us (off + j)) (cs.getD j .undef)) :
    ∃ v, (Instr.loadAt T (.pointer (some ⟨b, o2 + off, none⟩))).run P w = .ok v w ∧ RepC tt w S g os v cv := by
  obtain ⟨info, hi⟩ := hT T ti hti
  have hkl : ∀ j, j < ti.cells.length → off + j < ks.length := fun j hj => by
    have : ti.cells.length ≤ ks.length - off := by rw [← hks]; simp; omega
    omega
  let vs : Array Value := ((List.range ti.cells.length).map fun j => us (off + j)).toArray
  have hvl : vs.size = ti.cells.length := by simp [vs]
  have hvg : ∀ j, j < ti.cells.length → vs.getD j Go.undef = us (off + j) := fun j hj => by simp [vs, Array.getD, hj]
  refine ⟨_, ?_, mkC_rep (vs := vs) hmk (by rw [hvl, hcl]) (fun j hj => ?_)⟩
  · simp only [Instr.loadAt, Instr.sureAddr, Sem.run_bind, Sem.run_pure, Result.andThen_ok]
    refine run_loadVar hi b (o2 + off) vs hvl (fun ha => by have := mkC_one hmk ha; omega) (fun j hj => ?_)
    rw [hvg j hj, Nat.add_assoc]
    exact hc _ (hkl j hj)
  · rw [hcl] at hj
    rw [hvg j hj]
    exact hr j hj (hkl j hj)
theorem getD_take_drop {ks cs : List CK} {off j : Nat} (h : (ks.drop off).take cs.length = cs) (hj : j < cs.length) : cs.getD j .other = ks.getD (off + j) .other ∧ ks[off + j]? = cs[j]? := by
  have : cs[j]? = ks[off + j]? := by
    conv => lhs; rw [← h]
    simp [hj]
  refine ⟨?_, this.symm⟩
  rw [List.getD_eq_getElem?_getD, List.getD_eq_getElem?_getD, this]

/-- A load out of a slice that stands in a cell. -/
theorem np_load (hT : TTok P tt) {T e : TypeId} {ti te : TI} {md : Md} {b m cap j f : Nat} {ys : List (List D)} {φ' : Nat → Prop} {cv : C} (hti : tt T = some ti) (hte : tt e = some te) (hks : (te.cells.drop f).take ti.cells.length = ti.cells) (hfl : flatKs ti.cells = true ∨ Md.beq md (.lv 1) = true)
    (hmk : mkC ti.uk.isAgg (kCells ti.cells (ys.getD j []) f) = some cv) (hz : md.isZ = false) (hw : RepW tt w S md (.slice (some ⟨b, 0, none⟩) m cap) (.list e ys) φ') (hj : j < ys.length) :
    ∃ v, (Instr.loadAt T (.pointer (some ⟨b, j * te.cells.length + f, none⟩))).run P w = .ok v w ∧ RepC tt w S g os v cv := by
  obtain ⟨a, cap', he, hbg, hle, hcs⟩ := hw.list_inv hz
  cases he
  obtain ⟨te3, hte3, _, hk, hfit, b', vs, φs, hb', hh, hsz, _, _, _, hr⟩ := hcs (by omega)
  rw [hte] at hte3; cases hte3
  simp only [Option.some.injEq, Addr.mk.injEq, and_true] at hb'
  subst hb'
  refine load_laid (S := S) (g := g) (os := os) (ti' := te) hT hti hks hmk (kCells_length _ _ _) (b := b) (o2 := j * te.cells.length) (us := fun q => vs.getD (j * te.cells.length + q) Go.undef) (fun q hq => ?_) (fun q hq hqk => ?_)
  · have hlt : j * te.cells.length + q < vs.size := by rw [hsz]; exact idx_lt (by omega) hq
    rw [cell_of_row w b _ vs e (0, 0) hh]
    simp [Array.getD, hlt]
  · rw [kCells_getD _ _ _ _ hq, (getD_take_drop hks hq).1]
    have hkk : te.cells[f + q]? = some (te.cells.getD (f + q) .other) := by
      rw [List.getD_eq_getElem?_getD, List.getElem?_eq_getElem hqk]; simp
    have hfj := fitsAll_at (hfit j hj) (f + q) _ hkk
    rw [CK.norm_fits hfj]
    have hww := hr j (f + q) hj hqk
    have hnl : (te.cells.getD (f + q) .other).isL = false ∨ md.down.isZ = true := by
      rcases hfl with hfl | hm
      · left
        rw [← (getD_take_drop hks hq).1]
        have : ∀ (l : List CK) (q : Nat), flatKs l = true → (l.getD q .other).isL = false := by
          intro l
          induction l with
          | nil => intro q _; rfl
          | cons k l ih =>
            intro q hf
            simp only [flatKs, Bool.and_eq_true, Bool.not_eq_true'] at hf
            cases q with
            | zero => simpa using hf.1
            | succ q => simpa using ih q hf.2
        exact this _ _ hfl
      · right
        rw [Md.beq_eq hm]; rfl
    have hdl := CK.fits_isL hfj
    generalize md.down = m2 at hww hnl
    generalize vs.getD (j * te.cells.length + (f + q)) Go.undef = u at hww ⊢
    generalize (ys.getD j []).getD (f + q) .z = d at hww hdl ⊢
    cases hww with
    | froz _ _ _ h => exact .d _ _ h
    | sc _ _ _ _ h _ => exact .d _ _ h
    | zero => exact .d _ _ (.nil _ _ _)
    | list m3 =>
      rcases hnl with h | h
      · rw [h] at hdl; cases hdl
      · rw [isZ_up] at h; cases h
theorem evalLoad_sound (hT : TTok P tt) {E : Env} (hE : E.B.tt = tt) {T : TypeId} {s : St} {vx : Value} {cx : C} {Kv : C → R} (hI : Inv tt c w g s.objs)
    (h : evalLoad E T cx s Kv) (hx : RepC tt w (Now c w g s.objs.length) g s.objs vx cx) :
    ∃ v cv, (Instr.loadAt T vx).run P w = .ok v w ∧ RepC tt w (Now c w g s.objs.length) g s.objs v cv ∧ Kv cv := by
  subst hE
  unfold evalLoad at h
  split at h
  · cases h
  rename_i ti hti
  split at h
  · -- a box
    rename_i o off
    split at h
    · rename_i cs hcs
      obtain ⟨hle, h⟩ := bif_some h
      have hle : off + ti.cells.length ≤ cs.length := Nat.le_of_ble_eq_true hle
      split at h
      · rename_i cv hmk
        have hob := getD_some hcs (by simp)
        cases hx with
        | ref _ _ b hη =>
          obtain ⟨b', vs, T', hb', hh, hsz, hr, h1, _⟩ := hI.ob o _ _ hob hη
          simp only [Value.pointer.injEq, Option.some.injEq, Addr.mk.injEq, and_true] at hb'
          subst hb'
          obtain ⟨info, hi⟩ := hT T ti hti
          have hlen : ((cs.drop off).take ti.cells.length).length = ti.cells.length := by simp; omega
          have hvl : (vs.extract off (off + ti.cells.length)).size = ti.cells.length := by simp; omega
          refine ⟨_, cv, ?_, mkC_rep (vs := vs.extract off (off + ti.cells.length)) hmk (by rw [hvl, hlen]) ?_, h⟩
          · simp only [Instr.loadAt, Instr.sureAddr, Sem.run_bind, Sem.run_pure, Result.andThen_ok]
            refine run_loadVar hi b off _ hvl (fun ha => by have := mkC_one hmk ha; omega) (fun j hj => ?_)
            rw [cell_of_row w b _ vs T' (0, 0) hh]
            simp [Array.getD, hj, show off + j < vs.size by omega]
            intro hmin
            omega
          · intro i hi'
            rw [hlen] at hi'
            have := hr (off + i) (by omega)
            simp [Array.getD, List.getD_eq_getElem?_getD, show off + i < vs.size by omega, show off + i < cs.length by omega, hi'] at this ⊢
            rw [dif_pos (by omega)]
            exact this
      · cases h
    · cases h
  · -- plain data
    rename_i ks ds off
    obtain ⟨hcond, h⟩ := bif_some h
    simp only [Bool.and_eq_true] at hcond
    obtain ⟨hks, hdk⟩ := hcond
    have hks := ksBeq_eq hks
    split at h
    · rename_i cv hmk
      cases hx with
      | lp _ _ _ b o2 vs hS hf hc hr =>
        obtain ⟨v, h1, h2⟩ := load_laid (S := Now c w g s.objs.length) (g := g) (os := s.objs) (ti' := ti) hT hti hks hmk (kCells_length _ _ _) hc (fun j hj hk => by
          rw [kCells_getD _ _ _ _ hj, (getD_take_drop hks hj).1]
          have hfj : (ks.getD (off + j) .other).fits (ds.getD (off + j) .z) := fitsAll_at hf (off + j) _ (by
            rw [List.getD_eq_getElem?_getD, List.getElem?_eq_getElem hk]
            simp)
          rw [CK.norm_fits hfj]
          exact .d _ _ (hr _ hk))
        exact ⟨v, cv, h1, h2, h⟩
    · cases h
  · -- an element of a row of one's own
    rename_i o i off
    split at h
    · rename_i T' md ver xs hxs
      split at h
      · rename_i ti' hti'
        obtain ⟨hcond, hix, h⟩ := bif_some h
        simp only [Bool.and_eq_true] at hcond
        obtain ⟨hks, hdk⟩ := hcond
        have hks := ksBeq_eq hks
        split at h
        · rename_i cv hmk
          have hob := getD_some hxs (by simp)
          cases hx with
          | rp _ _ _ b p ho hrp =>
            obtain ⟨_, ti2, o2, m, cap2, ht2, hη, rfl⟩ := hrp xs.length T' (.inl ⟨md, ver, xs, hob, rfl⟩)
            rw [hti'] at ht2; cases ht2
            obtain ⟨a, cap, ti3, hv, ht3, hd, hk, hfit, hle, hbg, hcap⟩ := hI.ob o _ _ hob hη
            rw [hti'] at ht3; cases ht3
            simp only [Value.slice.injEq] at hv
            obtain ⟨rfl, rfl, rfl⟩ := hv
            obtain ⟨b', us0, φs, hb', hh, hsz, hφb, hφs, hdj, hr, hν⟩ := hcap (by omega)
            simp only [Option.some.injEq, Addr.mk.injEq, and_true] at hb'
            obtain ⟨rfl, rfl⟩ := hb'
            have hbase : 0 + (i * ti'.cells.length + off) = i * ti'.cells.length + off := by omega
            rw [hbase]
            obtain ⟨v, h1, h2⟩ := load_laid (S := Now c w g s.objs.length) (g := g) (os := s.objs) (ti' := ti') hT hti hks hmk (rCells_length _ _ _ _ _ _ _) (b := b) (o2 := i * ti'.cells.length) (us := fun j => us0.getD (i * ti'.cells.length + j) Go.undef) (fun j hj => by
                have hlt : i * ti'.cells.length + j < us0.size := by rw [hsz]; exact idx_lt (by omega) hj
                rw [cell_of_row w b _ us0 T' (0, 0) hh]
                simp [Array.getD, hlt]) (fun j hj hjk => by
                rw [rCells_getD _ _ _ _ _ _ _ _ hj, (getD_take_drop hks hj).1]
                have hkk : ti'.cells[off + j]? = some (ti'.cells.getD (off + j) .other) := by
                  rw [List.getD_eq_getElem?_getD, List.getElem?_eq_getElem hjk]; simp
                have hfj := fitsAll_at (hfit i hix) (off + j) _ hkk
                have hw := hr i (off + j) hix hjk (fun h => h)
                generalize hkd : ti'.cells.getD (off + j) .other = kd at hkk hfj ⊢
                have dcase : ∀ (k : CK), k.fits ((xs.getD i []).getD (off + j) .z) → Rep E.B.tt w (Now c w g s.objs.length) (us0.getD (i * ti'.cells.length + (off + j)) Go.undef) ((xs.getD i []).getD (off + j) .z) → RepC E.B.tt w (Now c w g s.objs.length) g s.objs (us0.getD (i * ti'.cells.length + (off + j)) Go.undef) (.d (k.norm ((xs.getD i []).getD (off + j) .z))) := by
                  intro k hf hr
                  rw [CK.norm_fits hf]
                  exact .d _ _ hr
                have scase : kd.isL = false ∨ md.isZ = true → RepC E.B.tt w (Now c w g s.objs.length) g s.objs (us0.getD (i * ti'.cells.length + (off + j)) Go.undef) (.d (kd.norm ((xs.getD i []).getD (off + j) .z))) := by
                  intro hor
                  refine dcase kd hfj ?_
                  have hdl := CK.fits_isL hfj
                  generalize us0.getD (i * ti'.cells.length + (off + j)) Go.undef = u at hw ⊢
                  generalize (xs.getD i []).getD (off + j) .z = d at hw hdl ⊢
                  cases hw with
                  | froz _ _ _ h => exact h
                  | sc _ _ _ _ h _ => exact h
                  | zero => exact .nil _ _ _
                  | list m =>
                    rcases hor with h | h
                    · rw [h] at hdl; cases hdl
                    · rw [isZ_up] at h; cases h
                cases hz : md.isZ with
                | true =>
                  have e1 : rCell o ver i true kd (xs.getD i []) (off + j) = .d (kd.norm ((xs.getD i []).getD (off + j) .z)) := by cases kd <;> rfl
                  rw [e1]
                  exact scase (.inr hz)
                | false =>
                  cases hkl : kd with
                  | list e =>
                    rw [hkl] at hkk
                    have h3 := hν i (off + j) e hix hkk
                    show RepC E.B.tt w (Now c w g s.objs.length) g s.objs (us0.getD (i * ti'.cells.length + (off + j)) Go.undef) (.nst e o ver i (off + j))
                    rw [h3.1]
                    refine .nst _ e o ver i (off + j) (by have := hI.len; have := ob_lt hob; omega) (fun T2 ver2 n2 hq => ?_) h3.2
                    have hq2 : T2 = T' ∧ n2 = xs.length ∧ ver2 = ver := by
                      rcases hq with ⟨_, _, hq, rfl⟩ | ⟨_, _, _, _, hq, _⟩ | ⟨_, _, _, hq, _⟩ | ⟨_, _, _, _, hq, _⟩ <;> rw [hob] at hq <;> cases hq
                      exact ⟨rfl, rfl, rfl⟩
                    obtain ⟨rfl, rfl, rfl⟩ := hq2
                    exact ⟨Nat.le_refl _, fun _ => ⟨rfl, hix, ti', hti', hkk⟩⟩
                  | bool => rw [hkl] at scase; exact scase (.inl rfl)
                  | int k => rw [hkl] at scase; exact scase (.inl rfl)
                  | str => rw [hkl] at scase; exact scase (.inl rfl)
                  | iface => rw [hkl] at scase; exact scase (.inl rfl)
                  | other => rw [hkl] at scase; exact scase (.inl rfl))
            exact ⟨v, cv, h1, h2, h⟩
        · cases h
      · cases h
    · rename_i T' xs hxs
      split at h
      · rename_i ti' hti'
        obtain ⟨hcond, hix, h⟩ := bif_some h
        simp only [Bool.and_eq_true] at hcond
        obtain ⟨hks, hdk⟩ := hcond
        have hks := ksBeq_eq hks
        split at h
        · rename_i cv hmk
          have hob := getD_some hxs (by simp)
          cases hx with
          | rp _ _ _ b p ho hrp =>
            obtain ⟨_, ti2, o2, m, cap2, ht2, hη, rfl⟩ := hrp xs.length T' (.inr (.inr ⟨xs, hob, rfl⟩))
            rw [hti'] at ht2; cases ht2
            have hrep : Rep E.B.tt w (Now c w g s.objs.length) (.slice (some ⟨b, o2, none⟩) m cap2) (.list T' xs) := hI.ob o _ _ hob hη
            obtain ⟨rfl, _, _, hl⟩ := hrep.laid
            obtain ⟨ti3, ht3, hd, hk, hfit, b', off', hb', _, _, vs, hc, hr⟩ := hl (by omega)
            rw [hti'] at ht3; cases ht3
            simp only [Option.some.injEq, Addr.mk.injEq, and_true] at hb'
            obtain ⟨rfl, rfl⟩ := hb'
            have hbase : o2 + (i * ti'.cells.length + off) = (o2 + i * ti'.cells.length) + off := by omega
            rw [hbase]
            obtain ⟨v, h1, h2⟩ := load_laid (S := Now c w g s.objs.length) (g := g) (os := s.objs) (ti' := ti') hT hti hks hmk (kCells_length _ _ _) (b := b) (o2 := o2 + i * ti'.cells.length) (us := fun j => vs i j) (fun j hj => by
                rw [Nat.add_assoc]; exact hc i j hix hj) (fun j hj hjk => by
                rw [kCells_getD _ _ _ _ hj, (getD_take_drop hks hj).1]
                have hfj : (ti'.cells.getD (off + j) .other).fits ((xs.getD i []).getD (off + j) .z) := fitsAll_at (hfit i hix) (off + j) _ (by
                  rw [List.getD_eq_getElem?_getD, List.getElem?_eq_getElem hjk]
                  simp)
                rw [CK.norm_fits hfj]
                exact .d _ _ (hr _ _ hix hjk))
            exact ⟨v, cv, h1, h2, h⟩
        · cases h
      · cases h
    · cases h
  · -- an element of a slice in a row's cell
    rename_i e o ver i off j f
    split at h
    · rename_i T' md ver' xs hxs
      split at h
      · rename_i te hte
        obtain ⟨hcond, ⟨hix, hjx⟩, hfin⟩ := bif_some h
        clear h
        simp only [Bool.and_eq_true, Bool.or_eq_true, Bool.not_eq_true'] at hcond
        obtain ⟨hver, hz, hks, hdk, hfl⟩ := hcond
        have hver := Nat.eq_of_beq_eq_true hver
        subst hver
        split at hfin
        · rename_i cv hmk
          have hob := getD_some hxs (by simp)
          cases hx with
          | np _ _ _ _ _ _ _ b p ho hnp =>
            obtain ⟨_, ⟨ti, hti0, hke⟩, te2, m, cap, hte2, hν, hjm, rfl⟩ := (hnp T' _ xs.length (.inl ⟨md, xs, hob, rfl⟩)).2 rfl
            rw [hte] at hte2; cases hte2
            obtain ⟨v0, hv0⟩ := hI.eta hob
            obtain ⟨φ', hφ', hd, hw⟩ := nst_inv (hI.ob o _ v0 hob hv0) hz hix hti0 hke
            rw [hν] at hw
            obtain ⟨v, h1, h2⟩ := np_load hT hti hte (ksBeq_eq hks) hfl hmk hz hw hjx
            exact ⟨v, cv, h1, h2, hfin⟩
        · cases hfin
      · cases h
    · rename_i K T' md ver' es hes
      split at h
      · rename_i te hte
        obtain ⟨hcond, ⟨hix, hjx⟩, hfin⟩ := bif_some h
        clear h
        simp only [Bool.and_eq_true, Bool.or_eq_true, Bool.not_eq_true'] at hcond
        obtain ⟨⟨hver, hof⟩, hz, hks, hdk, hfl⟩ := hcond
        have hver := Nat.eq_of_beq_eq_true hver
        have hof := Nat.eq_of_beq_eq_true hof
        subst hver hof
        split at hfin
        · rename_i cv hmk
          have hob := getD_some hes (by simp)
          cases hx with
          | np _ _ _ _ _ _ _ b p ho hnp =>
            obtain ⟨_, ⟨ti, hti0, hke⟩, te2, m, cap, hte2, hν, hjm, rfl⟩ := (hnp T' _ es.length (.inr (.inr (.inl ⟨K, md, es, hob, Nat.le_refl _⟩)))).2 rfl
            rw [hte] at hte2; cases hte2
            obtain ⟨v0, hv0⟩ := hI.eta hob
            obtain ⟨φ', hφ', hd, hw⟩ := map_inv (hI.ob o _ v0 hob hv0) hix hti0 hke
            rw [hν] at hw
            obtain ⟨v, h1, h2⟩ := np_load hT hti hte (ksBeq_eq hks) hfl hmk hz hw hjx
            exact ⟨v, cv, h1, h2, hfin⟩
        · cases hfin
      · cases h
    · cases h
  · cases h

end Go.Proofs.EN
