/- Contracts of functions of this program, by the evaluator EN. No conditions but those that each theorem states. -/
import Derived.Test.YtekcghhacpllaaaGreatDoorEN14
import Derived.Laws.MakeOwn
/- The other operations: what is made. -/
namespace Go.Proofs.EN
open Go
set_option linter.unusedVariables false
set_option linter.unusedSimpArgs false
variable {tt : TypeId → Option TI} {P : Program} {c : Ctx} {w : World} {g : Gh} {os : List Ob} {S : Nat → Prop}

theorem bif_some' {α : Type} {b : Bool} {x : Option α} {fin : α} (h : (bif b then x else none) = some fin) : b = true ∧ x = some fin := by
  cases b
  · cases h
  · exact ⟨rfl, h⟩
theorem bif_true {b : Bool} {x : R} (h : (bif b then x else False)) : b = true ∧ x := by
  cases b
  · exact h.elim
  · exact ⟨rfl, h⟩

/-- What one operation comes to. -/
def Done (tt : TypeId → Option TI) (c : Ctx) (w0 : World) (g : Gh) (os : List Ob) (nt : Nat) (a : Act) (K : C → St → R) (v : Value) (w' : World) : Prop :=
  ∃ cv s' g', RepSt tt c w' g' nt a s' ∧ Stp c w0 g os w' g' s'.objs ∧ RepC tt w' (Now c w' g' s'.objs.length) g' s'.objs v cv ∧ K cv s'
theorem Done.same {nt : Nat} {a : Act} {s : St} {K : C → St → R} {v : Value} {cv : C} (hs : RepSt tt c w g nt a s) (hv : RepC tt w (Now c w g s.objs.length) g s.objs v cv) (hk : K cv s) : Done tt c w g s.objs nt a K v w :=
  ⟨cv, s, g, hs, .refl _ _ _ _, hv, hk⟩
def OpWp (tt : TypeId → Option TI) (P : Program) (c : Ctx) (g : Gh) (os : List Ob) (nt : Nat) (a : Act) (w : World) (o : Oper) (Kv Kp : C → St → R) : Prop :=
  ∀ (next : Act → World → Prop) (Q : Exit → Act → World → Prop), (∀ v w', Done tt c w g os nt a Kv v w' → next (a.put o.dst v) w') →
    (∀ v w', Done tt c w g os nt a Kp v w' → Q (.panic [{ v, recovered := false }]) a w') → o.wp P a w next Q
theorem OpWp.value {nt : Nat} {a : Act} {o : Oper} {Kv Kp : C → St → R} {v : Value} {w' : World} (hr : (execOp a.eval o).run P w = .ok (.value v) w') (h : Done tt c w g os nt a Kv v w') : OpWp tt P c g os nt a w o Kv Kp := by
  intro next Q hn _
  unfold Oper.wp
  rw [hr]
  exact hn v w' h
theorem OpWp.skip {nt : Nat} {a : Act} {o : Oper} {Kv Kp : C → St → R} {w' : World} (hr : (execOp a.eval o).run P w = .ok .skip w') (h : Done tt c w g os nt a Kv Go.undef w') : OpWp tt P c g os nt a w o Kv Kp := by
  intro next Q hn _
  unfold Oper.wp
  rw [hr]
  exact hn _ w' h
theorem OpWp.panic {nt : Nat} {a : Act} {o : Oper} {Kv Kp : C → St → R} {v : Value} {w' : World} (hr : (execOp a.eval o).run P w = .halt (.panic v) w') (h : Done tt c w g os nt a Kp v w') : OpWp tt P c g os nt a w o Kv Kp := by
  intro next Q _ hp
  unfold Oper.wp
  rw [hr]
  exact hp v w' h

/-! ### alloc, box -/
theorem getD_toList (vs : Array Value) (i : Nat) : vs.toList.getD i Go.undef = vs.getD i Go.undef := by
  simp [List.getD_eq_getElem?_getD, Array.getD_eq_getD_getElem?]
/-- A box of values, what has no room having become rows. -/
theorem box_step {nt : Nat} {a : Act} {s : St} {ks : List CK} {xs cs : List C} {os' : List Ob} (T : TypeId) (vs : Array Value) {Kv : C → St → R} (hs : RepSt tt c w g nt a s) (hp : promCs tt ks xs s.objs = (cs, os')) (hl : vs.size = xs.length)
    (hr : ∀ i, i < xs.length → RepC tt w (Now c w g s.objs.length) g s.objs (vs.getD i Go.undef) (xs.getD i .undef) ∧ (vs.getD i Go.undef).oneCell' = true) (h1 : xs.all C.one = true)
    (h : Kv (.ref os'.length 0) ⟨s.tmps, os' ++ [.box cs]⟩) : Done tt c w g s.objs nt a Kv (.pointer (some ⟨w.heap.size, 0, none⟩)) (w.alloc (.cells vs T)) := by
  obtain ⟨g1, hs1, st1, hl1, hr1, _⟩ := promCs_sound (vs := vs.toList) hs hp (by simpa using hl) (fun i hi => by rw [getD_toList]; exact (hr i hi).1) h1
  obtain ⟨hs2, st2, hv⟩ := alloc_box hs1 T vs cs (by omega) (fun i hi => by rw [← getD_toList]; exact hr1 i (by omega)) (fun i hi => (hr i (by omega)).2)
  exact ⟨_, _, _, hs2, st1.trans st2, hv, h⟩
theorem zeroC_one (k : CK) : (zeroC k).one = true := by cases k <;> rfl
theorem op_alloc (hT : TTok P tt) {T : TypeId} {ti : TI} {nt : Nat} {a : Act} {s : St} {cs : List C} {os' : List Ob} {Kv : C → St → R} (hs : RepSt tt c w g nt a s) (ht : tt T = some ti) (hp : promCs tt ti.cells (ti.cells.map zeroC) s.objs = (cs, os'))
    (h : Kv (.ref os'.length 0) ⟨s.tmps, os' ++ [.box cs]⟩) :
    ∃ v w', (Instr.alloc T true (.tuple #[])).run P w = .ok v w' ∧ Done tt c w g s.objs nt a Kv v w' := by
  obtain ⟨info, hi⟩ := hT T ti ht
  obtain ⟨zv, hz, hsz, hr⟩ := zero_rep (tt := tt) (w := w) (S := Now c w g s.objs.length) (g := g) (os := s.objs) hi
  refine ⟨_, _, ?_, box_step T zv.cells hs hp (by simp [hsz]) hr (by simp [List.all_eq_true, zeroC_one]) h⟩
  simp [Instr.alloc, zeroValue, typeInfo, hi.inf, hz, run_newVar]
theorem op_box {T : TypeId} {nt : Nat} {a : Act} {s : St} {ks : List CK} {v0 : Value} {c0 : C} {cs : List C} {os' : List Ob} {Kv : C → St → R} (hs : RepSt tt c w g nt a s) (hv : RepC tt w (Now c w g s.objs.length) g s.objs v0 c0) (h1 : (cellsC c0).all C.one = true)
    (hp : promCs tt ks (cellsC c0) s.objs = (cs, os')) (h : Kv (.ref os'.length 0) ⟨s.tmps, os' ++ [.box cs]⟩) :
    ∃ v w', (Instr.box T v0).run P w = .ok v w' ∧ Done tt c w g s.objs nt a Kv v w' := by
  obtain ⟨hsz, hr⟩ := cells_rep hv h1
  refine ⟨_, _, ?_, box_step T v0.cells hs hp hsz hr h1 h⟩
  simp [Instr.box, run_newVar]

/-! ### build -/
theorem putFields_sound (hT : TTok P tt) {E : Env} (hE : E.B.tt = tt) {fs : List (Nat × TypeId)} {places : Array (Nat × Nat)} (hp : ∀ (i off : Nat) (T : TypeId), fs[i]? = some (off, T) → ∀ ti, tt T = some ti → places[i]? = some (off, ti.cells.length)) :
    ∀ {cps : List (Nat × C)} {vps : List (Nat × Value)} {cs cs' : List C} {vs : Array Value}, putFields E fs cps cs = some cs' →
    vps.length = cps.length → (∀ i, i < cps.length → (vps.getD i (0, Go.undef)).1 = (cps.getD i (0, .undef)).1 ∧ RepC tt w S g os (vps.getD i (0, Go.undef)).2 (cps.getD i (0, .undef)).2) →
    vs.size = cs.length → (∀ i, i < cs.length → RepC tt w S g os (vs.getD i Go.undef) (cs.getD i .undef)) →
    ∃ vs', Instr.fill (places[·]?) vs vps = some vs' ∧ vs'.size = cs'.length ∧ ∀ i, i < cs'.length → RepC tt w S g os (vs'.getD i Go.undef) (cs'.getD i .undef)
  | [], vps, cs, cs', vs, h, hl, hr, hsz, hrs => by
    simp only [putFields, Option.some.injEq] at h
    subst h
    match vps, hl with
    | [], _ => exact ⟨vs, rfl, hsz, hrs⟩
  | (i0, x) :: cps, vps, cs, cs', vs, h, hl, hr, hsz, hrs => by
    simp only [putFields] at h
    split at h
    · rename_i off T hf
      split at h
      · rename_i ti hti
        rw [hE] at hti
        obtain ⟨hcond, h'⟩ := bif_some' h
        clear h
        simp only [Bool.and_eq_true] at hcond
        obtain ⟨hlen, hle, hone⟩ := hcond
        have hlen := Nat.eq_of_beq_eq_true hlen
        have hle := Nat.le_of_ble_eq_true hle
        match vps, hl with
        | (iv, v) :: vps, hl =>
        have hr0 := hr 0 (by simp)
        simp only [List.getD_cons_zero] at hr0
        obtain ⟨hiv, hrv⟩ := hr0
        subst hiv
        obtain ⟨hcs, hcr⟩ := cells_rep hrv hone
        have hroom : off + v.cells.size ≤ vs.size := by omega
        obtain ⟨vs', hfill, hsz', hr'⟩ := putFields_sound hT hE hp (vps := vps) (vs := layA vs off v) h' (by simpa using hl)
          (fun i hi => by simpa using hr (i + 1) (by simpa using hi)) (by rw [layA_size _ _ _ hroom, setRun_length]; exact hsz)
          (fun i hi => by
            rw [setRun_length] at hi
            rw [layA_getD _ _ _ _ hroom, setRun_getD _ _ _ _ _ (by omega), hcs]
            by_cases h2 : off ≤ i ∧ i < off + (cellsC x).length
            · rw [if_pos h2, if_pos h2]
              exact (hcr _ (by omega)).1
            · rw [if_neg h2, if_neg h2]
              exact hrs i hi)
        refine ⟨vs', ?_, hsz', hr'⟩
        rw [fill_cons _ vs iv v vps off ti.cells.length (hp iv off T hf ti hti) (by omega) hroom]
        exact hfill
      · cases h
    · cases h

theorem op_build (hT : TTok P tt) {E : Env} (hE : E.B.tt = tt) {T : TypeId} {fs : List (Nat × TypeId)} {ks : List CK} {by' : Nat} {ps : Array (Nat × Operand)} {nt : Nat} {a : Act} {s : St} {Kv : C → St → R} {cs : List C} (hs : RepSt tt c w g nt a s)
    (ht : tt T = some ⟨.struct fs, ks, by'⟩) (hp : putFields E fs (ps.toList.map fun p => (p.1, s.ev p.2)) (ks.map zeroC) = some cs) (h : Kv (.agg cs) s) :
    ∃ v w', (Instr.build T (ps.map fun (i, x) => (i, a.eval x))).run P w = .ok v w' ∧ Done tt c w g s.objs nt a Kv v w' := by
  obtain ⟨info, hi⟩ := hT T _ ht
  obtain ⟨zv, hz, hsz, hr⟩ := zero_rep (tt := tt) (w := w) (S := Now c w g s.objs.length) (g := g) (os := s.objs) hi
  obtain ⟨fields, hu, hfs, hinf⟩ := hi.uk
  have hpl : ∀ fl : List Field, (∀ f ∈ fl, (P.info? f.type).isSome = true) → (fl.mapM (m := Sem) fun f => do pure (f.offset, ← sizeOf f.type)).run P w = .ok (fl.map fun f => (f.offset, ((P.info? f.type).map (·.size)).getD 0)) w := by
    intro fl hfl
    induction fl with
    | nil => rfl
    | cons f fl ih =>
      obtain ⟨iu, hiu⟩ := Option.isSome_iff_exists.1 (hfl f (by simp))
      have h1 : (sizeOf f.type).run P w = .ok iu.size w := by simp [sizeOf, typeInfo, hiu]
      have h2 := ih (fun g hg => hfl g (by simp [hg]))
      simp only [List.mapM_cons, Sem.run_bind, h1, Result.andThen_ok, Sem.run_pure, h2, List.map_cons, hiu, Option.map_some, Option.getD_some]
  have hpl' : (fields.mapM (m := Sem) fun f => do pure (f.offset, ← sizeOf f.type)).run P w = .ok (fields.map fun f => (f.offset, ((P.info? f.type).map (·.size)).getD 0)) w := by
    rw [Array.mapM_eq_mapM_toList]
    simp only [Sem.run_map, hpl _ hinf, Result.andThen_ok, Sem.run_pure]
    simp
    apply Array.ext'
    simp
  obtain ⟨vs', hfill, hsz', hr'⟩ := putFields_sound (w := w) (S := Now c w g s.objs.length) (g := g) (os := s.objs) hT hE (fs := fs) (places := fields.map fun f => (f.offset, ((P.info? f.type).map (·.size)).getD 0))
    (fun i off U hf tu htu => by
      rw [← hfs] at hf
      simp only [List.getElem?_map, Option.map_eq_some_iff, Prod.mk.injEq] at hf
      obtain ⟨f, hf, rfl, rfl⟩ := hf
      have : fields[i]? = some f := by simpa using hf
      obtain ⟨iu, hiu⟩ := hT _ _ htu
      simp [this, hiu.inf, hiu.size])
    (vps := ps.toList.map fun p => (p.1, a.eval p.2)) (vs := zv.cells) hp (by simp)
    (fun i hi' => by
      have hi2 : i < ps.toList.length := by simpa using hi'
      simp only [List.getD_eq_getElem?_getD, List.getElem?_map, List.getElem?_eq_getElem hi2, Option.map_some, Option.getD_some]
      exact ⟨trivial, hs.ev _⟩)
    (by simp [hsz]) (fun i hi' => (hr i hi').1)
  refine ⟨.agg vs', w, ?_, Done.same hs (.agg _ _ hsz' hr') h⟩
  have hz' : (zeroValue T).run P w = .ok zv w := by simp [zeroValue, typeInfo, hi.inf, hz]
  have hfill' : Instr.fill ((fields.map fun f => (f.offset, ((P.info? f.type).map (·.size)).getD 0))[·]?) zv.cells (ps.map fun (i, x) => (i, a.eval x)).toList = some vs' := by
    simpa using hfill
  simp only [Instr.build, Sem.run_bind, hz', Result.andThen_ok, run_underlying hu, hpl', hfill', Sem.run_pure]

/-! ### buildSlice -/
theorem absorbs_len {md : Md} : ∀ {ks : List CK} {xs : List C} {os os' : List Ob} {ds : List D}, absorbs tt md ks xs os = some (ds, os') → os'.length = os.length
  | [], [], os, os', ds, h => by
    simp only [absorbs, Option.some.injEq, Prod.mk.injEq] at h
    rw [h.2]
  | [], _ :: _, _, _, _, h => by cases h
  | _ :: _, [], _, _, _, h => by cases h
  | k :: ks, x :: xs, os, os', ds, h => by
    simp only [absorbs] at h
    split at h
    · rename_i d os1 hd
      split at h
      · rename_i ds2 os2 hds
        simp only [Option.some.injEq, Prod.mk.injEq] at h
        rw [← h.2, absorbs_len hds, absorb_len hd]
      · cases h
    · cases h
theorem absorbs_alive {md : Md} (hz : md.isZ = true) : ∀ {ks : List CK} {xs : List C} {os os' : List Ob} {ds : List D}, absorbs tt md ks xs os = some (ds, os') → ∀ {m : Nat} {ob : Ob}, os[m]? = some ob → ob ≠ .dead → os'[m]? ≠ some .dead
  | [], [], os, os', ds, h => fun h1 h2 => by
    simp only [absorbs, Option.some.injEq, Prod.mk.injEq] at h
    rw [← h.2, h1]
    intro h3
    cases h3
    exact h2 rfl
  | [], _ :: _, _, _, _, h => by cases h
  | _ :: _, [], _, _, _, h => by cases h
  | k :: ks, x :: xs, os, os', ds, h => fun h1 h2 => by
    simp only [absorbs] at h
    split at h
    · rename_i d os1 hd
      split at h
      · rename_i ds2 os2 hds
        simp only [Option.some.injEq, Prod.mk.injEq] at h
        rw [← h.2]
        have hd' := hd
        unfold absorb at hd'
        simp only [hz, cond_true] at hd'
        have h3 := toD_alive hd' h1 h2
        have hm := ob_lt h1
        rw [← absorb_len hd] at hm
        exact absorbs_alive hz hds (List.getElem?_eq_getElem hm) (fun e => h3 (by rw [List.getElem?_eq_getElem hm, e]))
      · cases h
    · cases h
theorem Dead.twice {g' : Gh} {os1 os2 : List Ob} {b : Nat} (hI : Inv tt c w g' os2) (h : Dead g' os os1 b) (h' : Dead g' os1 os2 b) (hk : ∀ m : Nat, os1[m]? = some Ob.dead → os2[m]? = some Ob.dead) : False := by
  obtain ⟨m, _, h2, h3⟩ := h
  obtain ⟨m', ⟨ob, h4, h5⟩, h6, h7⟩ := h'
  have := hI.dj m m' b (ob_lt (hk m h2)) (ob_lt h6) h3 h7
  subst this
  rw [h2] at h4
  cases h4
  exact h5 rfl
structure Parts (tt : TypeId → Option TI) (c : Ctx) (w : World) (md : Md) (g' : Gh) (os os' : List Ob) (ks : List CK) (j : Nat) (cs' : Array Value) (xs : List (List D)) (ψ : Nat → Nat → Nat → Prop) : Prop where
  fit : ∀ i, i < xs.length → fitsAll ks (xs.getD i [])
  rep : ∀ i q, i < xs.length → q < ks.length → RepW tt w (Now c w g' os'.length) md (cs'.getD ((j + i) * ks.length + q) Go.undef) ((xs.getD i []).getD q .z) (ψ i q)
  dead : ∀ i q b, i < xs.length → q < ks.length → ψ i q b → Dead g' os os' b
  dj : ∀ i q i' q' b, i < xs.length → q < ks.length → i' < xs.length → q' < ks.length → ψ i q b → ψ i' q' b → i = i' ∧ q = q'
theorem putParts_sound {nt : Nat} {a : Act} {md : Md} {ks : List CK} (hk0 : 0 < ks.length) : ∀ {cps : List (Nat × C)} {vps : List (Nat × Value)} {g : Gh} {s : St} {j : Nat} {xs : List (List D)} {os' : List Ob} {cs : Array Value}, RepSt tt c w g nt a s → putParts tt md ks cps s.objs j = some (xs, os') →
    vps.length = cps.length → (∀ i, i < cps.length → (vps.getD i (0, Go.undef)).1 = (cps.getD i (0, .undef)).1 ∧ RepC tt w (Now c w g s.objs.length) g s.objs (vps.getD i (0, Go.undef)).2 (cps.getD i (0, .undef)).2) →
    (∀ i, i < cps.length → (cellsC (cps.getD i (0, .undef)).2).all C.one = true) →
    (j + cps.length) * ks.length ≤ cs.size →
    ∃ g' ψ cs', RepSt tt c w g' nt a ⟨s.tmps, os'⟩ ∧ Stp c w g s.objs w g' os' ∧ xs.length = cps.length ∧ os'.length = s.objs.length ∧ (∀ m : Nat, s.objs[m]? = some Ob.dead → os'[m]? = some Ob.dead) ∧ (md.isZ = false → g' = g) ∧
      Instr.fill (fun i => some (i * ks.length, ks.length)) cs vps = some cs' ∧ cs'.size = cs.size ∧ (∀ p, p < j * ks.length → cs'.getD p Go.undef = cs.getD p Go.undef) ∧ Parts tt c w md g' s.objs os' ks j cs' xs ψ
  | [], vps, g, s, j, xs, os', cs, hs, h, hl, hr, h1, hsz => by
    simp only [putParts, Option.some.injEq, Prod.mk.injEq] at h
    obtain ⟨rfl, rfl⟩ := h
    match vps, hl with
    | [], _ => exact ⟨g, fun _ _ _ => False, cs, hs, .refl _ _ _ _, rfl, rfl, fun _ h => h, fun _ => rfl, rfl, rfl, fun _ _ => rfl, ⟨fun i hi => by simp at hi, fun i q hi => by simp at hi, fun i q b hi => by simp at hi, fun i q i' q' b hi => by simp at hi⟩⟩
  | (i0, x) :: cps, vps, g, s, j, xs, os', cs, hs, h, hl, hr, h1, hsz => by
    simp only [putParts] at h
    cases hij : Nat.beq i0 j with
    | false => simp [hij] at h
    | true =>
      have hij' : i0 = j := Nat.eq_of_beq_eq_true hij
      simp only [hij, cond_true] at h
      split at h
      · rename_i ds os1 hd
        split at h
        · rename_i xs2 os2 hds
          simp only [Option.some.injEq, Prod.mk.injEq] at h
          obtain ⟨rfl, rfl⟩ := h
          match vps, hl with
          | (iv, v) :: vps, hl =>
          have hr0 := hr 0 (by simp)
          simp only [List.getD_cons_zero] at hr0
          obtain ⟨hiv, hrv⟩ := hr0
          subst hij'
          subst hiv
          have h10 : (cellsC x).all C.one = true := by simpa using h1 0 (by simp)
          obtain ⟨hcs, hcr⟩ := cells_rep hrv h10
          obtain ⟨g1, ψ1, hs1, st1, hdl, hxl, hab, hkd, hge⟩ := absorbs_sound (vs := v.cells.toList) hs hd (by simpa using hcs) (fun i hi => by rw [getD_toList]; exact (hcr i hi).1)
          have hvs : v.cells.size = ks.length := by rw [hcs, hxl]
          simp only [List.length_cons] at hsz
          have hroom : iv * ks.length + v.cells.size ≤ cs.size := by
            rw [hvs]
            calc iv * ks.length + ks.length = (iv + 1) * ks.length := by rw [Nat.add_mul, Nat.one_mul]
              _ ≤ (iv + (cps.length + 1)) * ks.length := Nat.mul_le_mul_right _ (by omega)
              _ ≤ cs.size := hsz
          obtain ⟨g2, ψ2, cs', hs2, st2, hl2, hol, hkd2, hge2, hfill, hcsz, hkeep, hP⟩ := putParts_sound hk0 (s := ⟨s.tmps, os1⟩) (vps := vps) (cs := layA cs (iv * ks.length) v) hs1 hds (by simpa using hl)
            (fun i hi => by
              have := hr (i + 1) (by simpa using hi)
              simp only [List.getD_cons_succ] at this
              exact ⟨this.1, st1.rep this.2⟩)
            (fun i hi => by simpa using h1 (i + 1) (by simpa using hi))
            (by rw [layA_size _ _ _ hroom]; rw [show iv + 1 + cps.length = iv + (cps.length + 1) by omega]; exact hsz)
          have hlen1 := absorbs_len hd
          have he : ∀ q b, q < ks.length → ψ1 q b → g2 = g1 := fun q b hq hb => by
            refine hge2 ?_
            cases hz : md.isZ with
            | false => rfl
            | true =>
              obtain ⟨m, ⟨ob, h4, h5⟩, h6, _⟩ := hab.dead q b hq hb
              exact (absorbs_alive hz hd h4 h5 h6).elim
          have hd1 : ∀ q b, q < ks.length → ψ1 q b → Dead g2 s.objs os1 b := fun q b hq hb => by
            rw [he q b hq hb]
            exact hab.dead q b hq hb
          have no : ∀ q b i' q', q < ks.length → ψ1 q b → i' < xs2.length → q' < ks.length → ψ2 i' q' b → False := fun q b i' q' hq hb hi' hq' hb' =>
            (hd1 q b hq hb).twice hs2.inv (hP.dead i' q' b hi' hq' hb') hkd2
          refine ⟨g2, fun i => match i with | 0 => ψ1 | i + 1 => ψ2 i, cs', hs2, st1.trans st2, by simp [hl2], by rw [hol]; exact hlen1, fun m hm => hkd2 m (hkd m hm), fun hz => (hge2 hz).trans (hge hz), ?_, ?_, fun p hp => ?_, ⟨fun i hi => ?_, fun i q hi hq => ?_, fun i q b hi hq hb => ?_, fun i q i' q' b hi hq hi' hq' hb hb' => ?_⟩⟩
          · rw [fill_cons _ cs iv v vps (iv * ks.length) ks.length rfl hvs hroom]
            exact hfill
          · rw [hcsz, layA_size _ _ _ hroom]
          · rw [hkeep p (by rw [Nat.add_mul]; omega), layA_getD _ _ _ _ hroom, if_neg (by omega)]
          · cases i with
            | zero => simpa using hab.fit
            | succ i => simpa using hP.fit i (by simpa using hi)
          · cases i with
            | zero =>
              have hlt : iv * ks.length + q < (iv + 1) * ks.length := by rw [Nat.add_mul]; omega
              rw [Nat.add_zero, hkeep _ hlt, layA_getD _ _ _ _ hroom, if_pos (by omega)]
              have := (hab.rep q hq).mono st2.now fun b hb => (⟨hb, rfl⟩ : ψ1 q b ∧ w.heap[b]? = w.heap[b]?)
              rw [show iv * ks.length + q - iv * ks.length = q by omega]
              rw [getD_toList] at this
              simpa using this
            | succ i =>
              have := hP.rep i q (by simpa using hi) hq
              rw [show iv + (i + 1) = iv + 1 + i by omega]
              simpa using this
          · cases i with
            | zero =>
              obtain ⟨m, h4, h5, h6⟩ := hd1 q b hq hb
              exact ⟨m, h4, hkd2 m h5, h6⟩
            | succ i =>
              obtain ⟨m, ⟨ob, h4, h4'⟩, h5, h6⟩ := hP.dead i q b (by simpa using hi) hq hb
              have hm : m < s.objs.length := by have := ob_lt h4; simp only at this; omega
              refine ⟨m, ⟨s.objs[m], by simp [hm], fun hdd => ?_⟩, h5, h6⟩
              have := hkd m (by rw [List.getElem?_eq_getElem hm, hdd])
              simp only at h4
              rw [h4] at this
              cases this
              exact h4' rfl
          · cases i with
            | zero =>
              cases i' with
              | zero => exact ⟨rfl, hab.dj q q' b hq hq' hb hb'⟩
              | succ i' => exact (no q b i' q' hq hb (by simpa using hi') hq' hb').elim
            | succ i =>
              cases i' with
              | zero => exact (no q' b i q hq' hb' (by simpa using hi) hq hb).elim
              | succ i' =>
                have := hP.dj i q i' q' b (by simpa using hi) hq (by simpa using hi') hq' hb hb'
                exact ⟨by rw [this.1], this.2⟩
        · cases h
      · cases h

theorem op_buildSlice (hT : TTok P tt) {T e : TypeId} {ks : List CK} {by' n : Nat} {ti : TI} {ps : Array (Nat × Operand)} {nt : Nat} {a : Act} {s : St} {md : Md} {Kv : C → St → R} {xs : List (List D)} {os' : List Ob} (hs : RepSt tt c w g nt a s)
    (ht : tt T = some ⟨.slice e, ks, by'⟩) (hte : tt e = some ti) (hd : dataKs ti.cells = true) (h0 : 0 < ti.cells.length) (hn : ps.toList.length = n) (hn2 : n * ti.cells.length ≤ 4096) (hone : ∀ p ∈ ps.toList, (cellsC (s.ev p.2)).all C.one = true)
    (hp : putParts tt md ti.cells (ps.toList.map fun p => (p.1, s.ev p.2)) s.objs 0 = some (xs, os')) (h : Kv (.row os'.length) ⟨s.tmps, os' ++ [.row e md 0 xs]⟩) :
    ∃ v w', (Instr.buildSlice T n (ps.map fun (i, x) => (i, a.eval x))).run P w = .ok v w' ∧ Done tt c w g s.objs nt a Kv v w' := by
  obtain ⟨info, hi⟩ := hT T _ ht
  obtain ⟨ie, hie⟩ := hT e _ hte
  obtain ⟨zv, hz, hsz, hzc⟩ := hie.zero
  have hu : P.underlying T = some (.slice e) := hi.uk.1
  let zs : Array Value := (Array.range (n * ti.cells.length)).map ((if n * ti.cells.length = 0 then #[] else zv.cells)[· % (if n * ti.cells.length = 0 then #[] else zv.cells).size]!)
  have hzs : zs.size = n * ti.cells.length := by simp [zs]
  obtain ⟨g1, ψ, cs', hs1, st1, hl, hol, hkd, _, hfill, hcs, _, hP⟩ := putParts_sound (j := 0) (cs := zs) h0 hs hp (vps := ps.toList.map fun p => (p.1, a.eval p.2)) (by simp)
    (fun i hi' => by
      have hi2 : i < ps.toList.length := by simpa using hi'
      simp only [List.getD_eq_getElem?_getD, List.getElem?_map, List.getElem?_eq_getElem hi2, Option.map_some, Option.getD_some]
      exact ⟨trivial, hs.ev _⟩)
    (fun i hi' => by
      have hi2 : i < ps.toList.length := by simpa using hi'
      simp only [List.getD_eq_getElem?_getD, List.getElem?_map, List.getElem?_eq_getElem hi2, Option.map_some, Option.getD_some]
      exact hone _ (List.getElem_mem hi2))
    (by rw [hzs, List.length_map, hn, Nat.zero_add]; exact Nat.le_refl _)
  have hxn : xs.length = n := by rw [hl, List.length_map, hn]
  have hnb : n ≤ n * ti.cells.length := Nat.le_mul_of_pos_right n h0
  have hrun : (Instr.buildSlice T n (ps.map fun (i, x) => (i, a.eval x))).run P w = .ok (.slice (some ⟨w.heap.size, 0, none⟩) n n) (w.alloc (.cells cs' e)) := by
    have hsize : (sizeOf e).run P w = .ok ti.cells.length w := by simp [sizeOf, typeInfo, hie.inf, hie.size]
    have hz' : (zeroValue e).run P w = .ok zv w := by simp [zeroValue, typeInfo, hie.inf, hz]
    have hfill' : Instr.fill (fun i => some (i * ti.cells.length, ti.cells.length)) zs (ps.map fun (i, x) => (i, a.eval x)).toList = some cs' := by simpa using hfill
    have hbig : ¬ (n * ti.cells.length > 2 ^ 24) := by omega
    simp only [Instr.buildSlice, Sem.run_bind, run_underlying hu, Result.andThen_ok, hsize, if_neg hbig, Sem.run_pure]
    by_cases hn0 : n * ti.cells.length = 0
    · simp only [zs, if_pos hn0] at hfill'
      simp only [if_pos hn0, Sem.run_pure, Result.andThen_ok, hfill', Sem.run_bind, newRow]
      simp
    · simp only [zs, if_neg hn0] at hfill'
      simp only [if_neg hn0, Sem.run_bind, hz', Sem.run_pure, Result.andThen_ok, hfill', newRow]
      simp
  have hheap : ∀ b, b < w.heap.size → (w.alloc (.cells cs' e)).heap[b]? = w.heap[b]? := fun b hb => heap_alloc_old w _ b hb
  let Ψ : Nat → Prop := fun b => ∃ i q, i < xs.length ∧ q < ti.cells.length ∧ ψ i q b
  let φ0 : Nat → Prop := fun b => b = w.heap.size ∨ Ψ b
  let ν0 : Nat → Nat → Value := fun i j => cs'.getD (i * ti.cells.length + j) Go.undef
  have hΨd : ∀ b, Ψ b → ∃ m, os'[m]? = some .dead ∧ g1.φ m b := fun b ⟨i, q, hi', hq, hb⟩ => by
    obtain ⟨m, _, h2, h3⟩ := hP.dead i q b hi' hq hb
    exact ⟨m, h2, h3⟩
  have hφ0 : ∀ b, φ0 b → Ψ b ∨ (w.heap.size ≤ b ∧ b < (w.alloc (.cells cs' e)).heap.size) := fun b hb => by
    rcases hb with rfl | hb
    · exact .inr ⟨Nat.le_refl _, by simp⟩
    · exact .inl hb
  have hΨlt : ∀ b, Ψ b → b < w.heap.size := fun b hb => by
    obtain ⟨m, h2, h3⟩ := hΨd b hb
    exact (hs1.inv.own m b (ob_lt h2) h3).2
  have hcs' : cs'.size = n * ti.cells.length := by rw [hcs, hzs]
  have hcg := Chg.new (ob := .row e md 0 xs) (v := .slice (some ⟨w.heap.size, 0, none⟩) n n) (ν0 := ν0) (φ0 := φ0) (Ψ := Ψ) (w' := w.alloc (.cells cs' e)) hs1.inv (by simp) (fun b hb _ => hheap b hb) rfl rfl rfl hΨd hφ0
  have hs2 := RepSt.new (ob := .row e md 0 xs) (v := .slice (some ⟨w.heap.size, 0, none⟩) n n) (ν0 := ν0) (φ0 := φ0) (Ψ := Ψ) (w' := w.alloc (.cells cs' e)) hs1 (by simp) (fun b hb _ => hheap b hb) rfl rfl rfl hΨd hφ0 (by
    have hnew : (g1.new (.slice (some ⟨w.heap.size, 0, none⟩) n n) ν0 φ0 Ψ).φ os'.length = φ0 := by
      funext b; simp [Gh.new, hs1.inv.len]
    have hν : (g1.new (.slice (some ⟨w.heap.size, 0, none⟩) n n) ν0 φ0 Ψ).ν os'.length = ν0 := by
      simp [Gh.new, hs1.inv.len]
    simp only [RepO, hnew, hν]
    have hrr : ∀ i j, i < xs.length → j < ti.cells.length → RepW tt (w.alloc (.cells cs' e)) (Now c (w.alloc (.cells cs' e)) (g1.new (.slice (some ⟨w.heap.size, 0, none⟩) n n) ν0 φ0 Ψ) (os' ++ [Ob.row e md 0 xs]).length) md (cs'.getD (i * ti.cells.length + j) Go.undef) ((xs.getD i []).getD j .z) (ψ i j) := by
      intro i j hi' hj
      have := hP.rep i j hi' hj
      rw [Nat.zero_add] at this
      exact this.mono (hcg.now hs1.inv) fun b hb => ⟨hb, hheap b (hΨlt b ⟨i, j, hi', hj, hb⟩)⟩
    refine ⟨_, n, ti, by rw [hxn], hte, hd, h0, hP.fit, by omega, by unfold big; omega, fun hc0 => ⟨w.heap.size, cs', ψ, rfl, heap_alloc_new w _, hcs', .inl rfl, fun i j x hi' hj _ hx => ⟨.inr ⟨i, j, hi', hj, hx⟩, ?_⟩,
      fun i j i' j' x hi' hj hi2 hj2 _ _ h3 h4 => hP.dj i j i' j' x hi' hj hi2 hj2 h3 h4, fun i j hi' hj _ => hrr i j hi' hj, fun i j e' hi' hj => ⟨rfl, (hrr i j hi' (List.getElem?_eq_some_iff.1 hj).1).one⟩⟩⟩
    have := hΨlt x ⟨i, j, hi', hj, hx⟩
    omega)
  refine ⟨_, _, hrun, _, _, _, hs2, st1.trans (hcg.stp hs1.inv), .row _ _ (by simp [Gh.new, hs1.inv.len]) (fun _ => by have := hs1.inv.len; simp only at this; simp [Gh.new, ← this]) rfl, h⟩

/-! ### makeSlice -/
theorem zero_fits {ks : List CK} (hk : dataKs ks = true) : fitsAll ks (ks.map CK.zero) := by
  induction ks with
  | nil => trivial
  | cons k ks ih =>
    simp only [dataKs, Bool.and_eq_true] at hk
    refine ⟨?_, ih hk.2⟩
    cases k with
    | bool => exact ⟨_, rfl⟩
    | int k => exact ⟨_, rfl⟩
    | str => exact ⟨_, rfl⟩
    | list e => exact ⟨_, rfl⟩
    | iface => exact .inl rfl
    | other => cases hk.1
theorem dataKs_get : ∀ {ks : List CK} {j : Nat} {k : CK}, dataKs ks = true → ks[j]? = some k → k.data = true
  | [], j, k, _, h => by simp at h
  | k0 :: ks, 0, k, hd, h => by
    simp only [dataKs, Bool.and_eq_true] at hd
    simp at h
    rw [← h]; exact hd.1
  | k0 :: ks, j + 1, k, hd, h => by
    simp only [dataKs, Bool.and_eq_true] at hd
    exact dataKs_get hd.2 (by simpa using h)
theorem zero_repW {k : CK} (hk : k.data = true) {md : Md} {φ : Nat → Prop} : RepW tt w S md (zeroV k) k.zero φ := by
  cases k with
  | bool => exact .sc _ _ _ _ (.bool _) rfl
  | int k => exact .sc _ _ _ _ (.int _ _) rfl
  | str => exact .sc _ _ _ _ (.str [] (by simp)) rfl
  | list e => exact .zero _ _ _ _
  | iface => exact .sc _ _ _ _ .nilI rfl
  | other => cases hk
theorem op_makeSlice (hT : TTok P tt) {T e : TypeId} {ks : List CK} {by' : Nat} {ti : TI} {nt : Nat} {a : Act} {s : St} {Kv : C → St → R} {kl kc : IntKind} {n m : Int} (hs : RepSt tt c w g nt a s)
    (ht : tt T = some ⟨.slice e, ks, by'⟩) (hte : tt e = some ti) (hd : dataKs ti.cells = true) (h0 : 0 < ti.cells.length) (hby : ti.bytes ≤ 1024) (hn : 0 ≤ n) (hnm : n ≤ m) (hm : m ≤ (big : Int))
    (h : Kv (.row s.objs.length) ⟨s.tmps, s.objs ++ [.row e .deep 0 (List.replicate n.toNat (ti.cells.map CK.zero))]⟩) :
    ∃ v w', (Instr.makeSlice T (.int kl n) (.int kc m)).run P w = .ok v w' ∧ Done tt c w g s.objs nt a Kv v w' := by
  obtain ⟨info, hi⟩ := hT T _ ht
  obtain ⟨ie, hie⟩ := hT e _ hte
  obtain ⟨zv, hz, hsz, hzc⟩ := hie.zero
  have hu : P.underlying T = some (.slice e) := hi.uk.1
  unfold big at hm
  have hb : (ie.bytes : Int) * m ≤ 281474976710656 := by
    rw [hie.bytes]
    have h1 : (ti.bytes : Int) * m ≤ 1024 * m := Int.mul_le_mul_of_nonneg_right (by omega) (by omega)
    omega
  have hrun := run_make (P := P) w T e ie zv hu hie.inf hz kl kc n m hn hnm hb (by omega)
  rw [hie.size] at hrun
  have hsz0 : 0 < zv.cells.size := by omega
  let mc := madeCells zv.cells (m.toNat * ti.cells.length)
  have hcell : ∀ p q, q < ti.cells.length → p * ti.cells.length + q < m.toNat * ti.cells.length → mc.getD (p * ti.cells.length + q) Go.undef = zv.cells.getD q Go.undef := by
    intro p q hq hlt
    show (madeCells zv.cells (m.toNat * ti.cells.length)).getD _ _ = _
    rw [madeCells, zerosArr_getD _ _ _ hlt hsz0, hsz, idx_mod hq]
  have hget : ∀ i, i < n.toNat → (List.replicate n.toNat (ti.cells.map CK.zero)).getD i [] = ti.cells.map CK.zero := by
    intro i hi'
    simp [List.getD_eq_getElem?_getD, hi']
  let xs := List.replicate n.toNat (ti.cells.map CK.zero)
  have hxl : xs.length = n.toNat := by simp [xs]
  let φ0 : Nat → Prop := fun b => b = w.heap.size
  let ν0 : Nat → Nat → Value := fun i j => mc.getD (i * ti.cells.length + j) Go.undef
  have hφ0 : ∀ b, φ0 b → False ∨ (w.heap.size ≤ b ∧ b < (w.alloc (.cells mc e)).heap.size) := fun b hb => by
    cases hb; exact .inr ⟨Nat.le_refl _, by simp⟩
  have hheap : ∀ b, b < w.heap.size → (w.alloc (.cells mc e)).heap[b]? = w.heap[b]? := fun b hb => heap_alloc_old w _ b hb
  have hcg := Chg.new (ob := .row e .deep 0 xs) (v := .slice (some ⟨w.heap.size, 0, none⟩) n.toNat m.toNat) (ν0 := ν0) (φ0 := φ0) (Ψ := fun _ => False) (w' := w.alloc (.cells mc e)) hs.inv (by simp) (fun b hb _ => hheap b hb) rfl rfl rfl (fun b hb => hb.elim) hφ0
  have hs2 := RepSt.new (ob := .row e .deep 0 xs) (v := .slice (some ⟨w.heap.size, 0, none⟩) n.toNat m.toNat) (ν0 := ν0) (φ0 := φ0) (Ψ := fun _ => False) (w' := w.alloc (.cells mc e)) hs (by simp) (fun b hb _ => hheap b hb) rfl rfl rfl (fun b hb => hb.elim) hφ0 (by
    have hnew : (g.new (.slice (some ⟨w.heap.size, 0, none⟩) n.toNat m.toNat) ν0 φ0 (fun _ => False)).φ s.objs.length = φ0 := by
      funext b; simp [Gh.new, hs.inv.len]
    have hν : (g.new (.slice (some ⟨w.heap.size, 0, none⟩) n.toNat m.toNat) ν0 φ0 (fun _ => False)).ν s.objs.length = ν0 := by
      simp [Gh.new, hs.inv.len]
    simp only [RepO, hnew, hν]
    have hval : ∀ i j, i < xs.length → ∀ k, ti.cells[j]? = some k → mc.getD (i * ti.cells.length + j) Go.undef = zeroV k ∧ (xs.getD i []).getD j .z = k.zero := by
      intro i j hi' k hk
      have hj := (List.getElem?_eq_some_iff.1 hk).1
      have hdk := dataKs_get hd hk
      refine ⟨?_, ?_⟩
      · rw [hcell i j hj (idx_lt (by omega) hj)]
        exact (hzc j k hk).1 (by intro e; rw [e] at hdk; cases hdk)
      · rw [hget i (by omega)]
        simp [List.getD_eq_getElem?_getD, hk]
    refine ⟨_, m.toNat, ti, by rw [hxl], hte, hd, h0, fun i hi' => by rw [hget i (by omega)]; exact zero_fits hd, by omega, by unfold big; omega, fun hc0 => ⟨w.heap.size, mc, fun _ _ _ => False, rfl, heap_alloc_new w _, size_madeCells _ _, rfl, fun i j x _ _ _ hx => hx.elim,
      fun i j i' j' x _ _ _ _ _ _ hx => hx.elim, fun i j hi' hj _ => ?_, fun i j e' hi' hj => ⟨rfl, ?_⟩⟩⟩
    · obtain ⟨h1, h2⟩ := hval i j hi' _ (List.getElem?_eq_getElem hj)
      rw [h1, h2]
      exact zero_repW (dataKs_get hd (List.getElem?_eq_getElem hj))
    · show (mc.getD (i * ti.cells.length + j) Go.undef).oneCell' = true
      rw [(hval i j hi' _ hj).1]
      rfl)
  refine ⟨_, _, hrun, _, _, _, hs2, hcg.stp hs.inv, .row _ _ (by simp [Gh.new, hs.inv.len]) (fun _ => by have := hs.inv.len; simp [Gh.new, ← this]) rfl, h⟩

end Go.Proofs.EN
