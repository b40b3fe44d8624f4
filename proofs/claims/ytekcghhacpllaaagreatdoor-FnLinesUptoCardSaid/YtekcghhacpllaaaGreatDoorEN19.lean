/- Contracts of functions of this program, by the evaluator EN. No conditions but those that each theorem states. -/
import Derived.Test.YtekcghhacpllaaaGreatDoorEN18
/- Calls. -/
namespace Go.Proofs.EN
open Go
set_option linter.unusedVariables false
set_option linter.unusedSimpArgs false
variable {tt : TypeId → Option TI} {P : Program} {c : Ctx} {w : World} {g : Gh} {os : List Ob} {S : Nat → Prop}

/-- What a call comes to, in the evaluator's words. -/
structure Wp (T : Tabs) (P : Program) (tt : TypeId → Option TI) (f : FuncId) (args : List C) (os : List Ob) (Kr Kp : C → List Ob → R) : Prop where
  enters : ∀ args w, (callFunc f args).run P w = .ok (.enter f args) w
  calls : ∀ (c : Ctx) (g : Gh) (vs : List Value), c.T = T → Inv tt c c.w0 g os → vs.length = args.length →
    (∀ i, i < args.length → RepC tt c.w0 (Now c c.w0 g os.length) g os (vs.getD i Go.undef) (args.getD i .undef)) →
    Calls P f vs.toArray c.w0 fun e w' => ∃ v x g' os', Inv tt c w' g' os' ∧ Later g os g' os' ∧ RepC tt w' (Now c w' g' os'.length) g' os' v x ∧
      ((e = .returned v ∧ Kr x os') ∨ (e = .panicked [{ v, recovered := false }] ∧ Kp x os'))
theorem Wp.mono {T : Tabs} {f : FuncId} {args : List C} {os : List Ob} {Kr Kp Kr' Kp' : C → List Ob → R} (h : Wp T P tt f args os Kr Kp) (hr : ∀ x os', Kr x os' → Kr' x os') (hp : ∀ x os', Kp x os' → Kp' x os') : Wp T P tt f args os Kr' Kp' :=
  ⟨h.enters, fun c g vs hT hI hl hv => (h.calls c g vs hT hI hl hv).mono fun e w' ⟨v, x, g', os', h1, h2, h3, h4⟩ => ⟨v, x, g', os', h1, h2, h3, by
    rcases h4 with ⟨h5, h6⟩ | ⟨h5, h6⟩
    · exact .inl ⟨h5, hr _ _ h6⟩
    · exact .inr ⟨h5, hp _ _ h6⟩⟩⟩

/-! ### What a call that only looks leaves -/
theorem RepW.any {w' : World} {S' : Nat → Prop} {md : Md} {v : Value} {d : D} {φ : Nat → Prop} (hh : ∀ b, φ b → w'.heap[b]? = w.heap[b]?) (h : RepW tt w S md v d φ) : md = .deep → RepW tt w' S' md v d φ := by
  induction h with
  | froz v d φ h => intro e; cases e
  | sc md v d φ h hs => exact fun _ => .sc _ _ _ _ (sc_any hs h) hs
  | zero md T a φ => exact fun _ => .zero _ _ _ _
  | list md T ti xs cap b φ vs φs ht hd hk hcap hc0 hb hfit hh' hsz hφb hφs hdj hr ih =>
    intro e
    have e : md = .deep := by cases md <;> first | rfl | cases e
    exact .list md T ti xs cap b φ vs φs ht hd hk hcap hc0 hb hfit ((hh b hφb).trans hh') hsz hφb hφs hdj fun i j hi hj => ih i j hi hj (fun x hx => hh x (hφs i j x hi hj hx).1) e
theorem RowX.any {S' : Nat → Prop} {md : Md} {v : Value} {T : TypeId} {xs : List (List D)} {φ : Nat → Prop} {ν : Nat → Nat → Value} (hc : flatT tt T = true ∨ md = .deep) (h : RowX tt w S (fun _ _ => False) md v T xs φ ν) : RowX tt w S' (fun _ _ => False) md v T xs φ ν := by
  obtain ⟨a, cap, ti, rfl, ht, hd, hk, hfit, hle, hb, h0⟩ := h
  refine ⟨a, cap, ti, rfl, ht, hd, hk, hfit, hle, hb, fun hc0 => ?_⟩
  obtain ⟨b, vs, φs, rfl, hh, hsz, hφb, hφs, hdj, hr, hν⟩ := h0 hc0
  refine ⟨b, vs, φs, rfl, hh, hsz, hφb, hφs, hdj, fun i j hi hj hs => ?_, hν⟩
  have h1 := hr i j hi hj hs
  rcases hc with hf | hm
  · rw [flatT_ti ht] at hf
    have hk := List.getElem?_eq_getElem hj
    have hdl : ((xs.getD i []).getD j .z).isL = false := by rw [CK.fits_isL (fitsAll_at (hfit i hi) j _ hk), flatKs_at hf hk]
    have h2 : Rep tt w (fun b => S b ∨ φs i j b) (vs.getD (i * ti.cells.length + j) Go.undef) ((xs.getD i []).getD j .z) := h1.frz (fun b hb => .inl hb) (fun b hb => .inr hb)
    exact .sc _ _ _ _ (sc_any hdl h2) hdl
  · exact h1.any (fun _ _ => rfl) hm
theorem scal1_ren {S' : Nat → Prop} {g' : Gh} {os' : List Ob} {m : Nat → Option Nat} (hl : LaterM m g os g' os') {v : Value} {x : C} (h : RepC tt w S g os v x) (hs : scal1 x = true) : RepC tt w S' g' os' v (x.ren m) := by
  have dd : ∀ {d : D}, RepC tt w S g os v (.d d) → d.isL = false → RepC tt w S' g' os' v (C.ren m (.d d)) := fun h hd => .d _ _ (sc_any hd h.d_inv)
  unfold scal1 at hs
  split at hs
  · exact dd h rfl
  · exact dd h rfl
  · exact dd h rfl
  · exact dd h rfl
  · exact dd h rfl
  · exact dd h rfl
  · exact dd h rfl
  · cases h with
    | cap0 a => exact .cap0 a
  · rename_i o
    have h2 : RepC tt w (fun _ => True) g os v (.row o) := h.mono (fun b hb => ⟨trivial, rfl⟩) (.refl _ _)
    have h3 : RepC tt w (fun _ => False) g os v (.row o) := by
      cases h with
      | row v o ho h h1 => exact .row v o ho h h1
    exact h3.ren' (fun b hb => hb.elim) hl
  · cases hs
theorem scal2_ren {S' : Nat → Prop} {g' : Gh} {os' : List Ob} {m : Nat → Option Nat} (hl : LaterM m g os g' os') {v : Value} {x : C} (h : RepC tt w S g os v x) (hs : scal2 x = true) : RepC tt w S' g' os' v (x.ren m) := by
  unfold scal2 at hs
  split at hs
  · rename_i cs
    cases h with
    | agg _ vs hl' hr =>
      refine .agg _ vs (by rw [renL_length]; exact hl') fun i hi => ?_
      rw [renL_length] at hi
      rw [renL_getD]
      exact scal1_ren hl (hr i hi) (List.all_eq_true.1 hs (cs.getD i .undef) (by simp [List.getD_eq_getElem?_getD, hi]))
  · exact scal1_ren hl h hs
theorem scalC_ren {S' : Nat → Prop} {g' : Gh} {os' : List Ob} {m : Nat → Option Nat} (hl : LaterM m g os g' os') {v : Value} {x : C} (h : RepC tt w S g os v x) (hs : scalC x = true) : RepC tt w S' g' os' v (x.ren m) := by
  unfold scalC at hs
  split at hs
  · rename_i cs
    cases h with
    | tuple _ vs hl' hr =>
      refine .tuple _ vs (by rw [renL_length]; exact hl') fun i hi => ?_
      rw [renL_length] at hi
      rw [renL_getD]
      exact scal2_ren hl (hr i hi) (List.all_eq_true.1 hs (cs.getD i .undef) (by simp [List.getD_eq_getElem?_getD, hi]))
  · exact scal2_ren hl h hs
theorem cleanO_inv {ob : Ob} (h : cleanO tt ob = true) : ob = .dead ∨ ∃ T md ver xs, ob = .row T md ver xs ∧ (flatT tt T = true ∨ md = .deep) := by
  cases ob with
  | dead => exact .inl rfl
  | row T md ver xs =>
    refine .inr ⟨T, md, ver, xs, rfl, ?_⟩
    simp only [cleanO, Bool.or_eq_true] at h
    rcases h with h | h
    · exact .inl h
    · exact .inr (Md.beq_eq h)
  | _ => cases h

theorem evalCall_sound {E : Env} {hE : E.B.tt = tt} (hX : ∀ f args os Kr Kp, E.B.W f args os Kr Kp → Wp c.T P tt f args os Kr Kp) {f : FuncId} {targs : List (TypeId × C)} {caps : List C} {rt : TypeId} {nt : Nat} {a : Act} {s : St} {Kv Kp : C → St → R} (hs : RepSt tt c w g nt a s)
    (h : evalCall E f targs caps rt s Kv Kp) {vs us : List Value} (hvl : vs.length = targs.length) (hv : ∀ i, i < targs.length → RepC tt w (Now c w g s.objs.length) g s.objs (vs.getD i Go.undef) (targs.getD i (0, .undef)).2)
    (hul : us.length = caps.length) (hu : ∀ i, i < caps.length → RepC tt w (Now c w g s.objs.length) g s.objs (us.getD i Go.undef) (caps.getD i .undef)) {o : Oper}
    (hrun : (execOp a.eval o).run P w = (callFunc f (vs ++ us).toArray).run P w) : OpWp tt P c g s.objs nt a w o Kv Kp := by
  subst hE
  have app : ∀ {R : Value → C → Prop} {cs : List C}, cs.length = targs.length → (∀ i, i < cs.length → R (vs.getD i Go.undef) (cs.getD i .undef)) → (∀ i, i < caps.length → R (us.getD i Go.undef) (caps.getD i .undef)) →
      ∀ i, i < (cs ++ caps).length → R ((vs ++ us).getD i Go.undef) ((cs ++ caps).getD i .undef) := by
    intro R cs hcl h1 h2 i hi
    rw [List.length_append] at hi
    simp only [List.getD_eq_getElem?_getD] at h1 h2 ⊢
    by_cases hlt : i < cs.length
    · rw [List.getElem?_append_left (by omega), List.getElem?_append_left hlt]
      exact h1 i hlt
    · rw [List.getElem?_append_right (by omega), List.getElem?_append_right (by omega)]
      have := h2 (i - cs.length) (by omega)
      rwa [show i - vs.length = i - cs.length by omega]
  have mapr : ∀ (m : Nat → Option Nat) (cs : List C) (i : Nat), (cs.map (C.ren m)).getD i .undef = (cs.getD i .undef).ren m := by
    intro m cs i
    simp only [List.getD_eq_getElem?_getD, List.getElem?_map]
    cases cs[i]? with
    | none => rfl
    | some x => rfl
  -- a call with what is given to it
  have give : ∀ {g1 : Gh} {os1 : List Ob} {cs : List C} {ks : List Nat} {Kr1 Kp1 : C → List Ob → R}, RepSt E.B.tt c w g1 nt a ⟨s.tmps, os1⟩ → Stp c w g s.objs w g1 os1 → cs.length = targs.length → (∀ i, i < cs.length → RepC E.B.tt w (Now c w g1 os1.length) g1 os1 (vs.getD i Go.undef) (cs.getD i .undef)) →
      ksOK os1.length 0 ks = true → E.B.W f ((cs ++ caps).map (C.ren (pm ks))) (pickObs ks os1 ks) Kr1 Kp1 →
      (∀ v w' g2 os2 x, RepSt E.B.tt c w' g2 nt a ⟨s.tmps, setObs (backM ks os1.length) os1 ks os2⟩ → Stp c w g1 os1 w' g2 (setObs (backM ks os1.length) os1 ks os2) → RepC E.B.tt w' (Now c w' g2 (setObs (backM ks os1.length) os1 ks os2).length) g2 (setObs (backM ks os1.length) os1 ks os2) v (x.ren (backM ks os1.length)) →
        (Kr1 x os2 → Done E.B.tt c w g1 os1 nt a Kv v w') ∧ (Kp1 x os2 → Done E.B.tt c w g1 os1 nt a Kp v w')) → OpWp E.B.tt P c g s.objs nt a w o Kv Kp := by
    intro g1 os1 cs ks Kr1 Kp1 hs1 st1 hcl hcr hok hW hfin
    have hp := Pick.of hok
    have hI : Inv E.B.tt c w g1 os1 := hs1.inv
    have hC := hX _ _ _ _ _ hW
    have hnt : ∀ b, Tracked (pickG ks g1) ks.length b → Tracked g1 os1.length b := fun b hb => by
      obtain ⟨k, hk, h⟩ := pick_tracked hp hb
      exact ⟨k, hp.lt k hk, h⟩
    let c1 : Ctx := { T := c.T, S0 := Now c w g1 os1.length, X := Tracked (pickG ks g1) ks.length, w0 := w }
    have hI1 : Inv E.B.tt c1 w (pickG ks g1) (pickObs ks os1 ks) :=
      hI.pick hp (fun b hb => .inl hb) (fun b hb => ⟨.inr hb, by obtain ⟨o, ho, h⟩ := hnt b hb; exact (hI.own o b ho h).2⟩) (Kept.refl _ _) (fun b hb => ⟨(hI.now_lt hb).1, fun ht => (hI.now_lt hb).2 (hnt b ht)⟩) hI.tabNow
    have hpl := pickObs_length ks os1 ks
    intro next Q hn hpn
    unfold Oper.wp
    rw [hrun, hC.enters]
    refine (hC.calls c1 (pickG ks g1) (vs ++ us) rfl hI1 (by simp [hvl, hcl, hul]) (fun i hi => ?_)).mono ?_
    · rw [mapr]
      rw [List.length_map] at hi
      have := app (R := fun v x => RepC E.B.tt w (Now c w g1 os1.length) g1 os1 v x) hcl hcr (fun i hi => st1.rep (hu i hi)) i hi
      exact this.ren' (fun b hb => .inl hb) (pick_later hp hI.len)
    · rintro e w' ⟨v, x, g', os2, hI', hg, hr, hc⟩
      obtain ⟨hB, hLM, hN⟩ := hI.back hp (c1 := c1) rfl rfl hI' hg (fun hLM hN j i ob u hm h1 h2 h3 h4 => (hI'.ob j ob u h1 h2).ren (hN fun b hb => hb) hLM h3 h4)
      have hst : RepSt E.B.tt c w' (backG ks os1.length g1 g') nt a ⟨s.tmps, setObs (backM ks os1.length) os1 ks os2⟩ :=
        ⟨hB.inv, hs.dfr, hs.len, fun i => hB.stp.rep (hs1.tmp i)⟩
      have hres := hfin v w' _ os2 x hst hB.stp (hr.ren' (hN fun b hb => hb) hLM)
      have cat : ∀ {K : C → St → R}, Done E.B.tt c w g1 os1 nt a K v w' → Done E.B.tt c w g s.objs nt a K v w' := by
        rintro K ⟨cv, s', g3, h1, h2, h3, h4⟩
        exact ⟨cv, s', g3, h1, st1.trans h2, h3, h4⟩
      rcases hc with ⟨rfl, hk'⟩ | ⟨rfl, hk'⟩
      · exact hn v w' (cat (hres.1 hk'))
      · exact hpn v w' (cat (hres.2 hk'))
  unfold evalCall at h
  simp only [sqN_eq, sqL_eq, sqO_eq] at h
  split at h
  · -- rows are lent
    generalize hop : openArgs E targs s.objs = q at h
    obtain ⟨targs', os0, l⟩ := q
    simp only at h
    split at h
    · cases h
    · rename_i cs os1 hargs
      obtain ⟨hok, h⟩ := bif_some h
      obtain ⟨g1, hs1, st1, hl1, hr1, hp1⟩ := openArgs_sound rfl hs hop hvl hv
      obtain ⟨g2, hs2, st2, hcl, hcr⟩ := argsOf_sound (how := 2) (by omega) (s := ⟨s.tmps, os0⟩) hs1 hargs (by omega) hr1
      refine give (Kr1 := _) (Kp1 := _) hs2 (st1.trans st2) (by omega) hcr hok h fun v w' g3 os2 x h1 h2 h3 => ?_
      have hsh : ∀ {K : C → St → R}, shutObs l (setObs (backM (reach os1 300 (argRefs E 2 targs' ++ refsL caps) []) os1.length) os1 (reach os1 300 (argRefs E 2 targs' ++ refsL caps) []) os2) (fun os2 => K (x.ren (backM (reach os1 300 (argRefs E 2 targs' ++ refsL caps) []) os1.length)) ⟨s.tmps, os2⟩) → Done E.B.tt c w g2 os1 nt a K v w' := by
        intro K hk
        obtain ⟨g4, os4, h4, h5, h6⟩ := shutObs_sound h1 (fun p hp => ((hp1 p hp).mono st2.later).mono h2.later) hk
        exact ⟨_, _, g4, h4, h2.trans h5, h5.rep h3, h6⟩
      exact ⟨hsh, hsh⟩
  · rename_i hne
    split at h
    · -- a call that only looks
      rename_i hlook
      split at h
      · cases h
      · rename_i cs os' hargs
        have hC := hX _ _ _ _ _ h
        obtain ⟨hcl, hcr⟩ := argsOf_look hs hargs hvl hv
        have hI := hs.inv
        have hp : Pick [] s.objs.length := ⟨rfl, fun o ho => by cases ho⟩
        let c1 : Ctx := { T := c.T, S0 := All w, X := Tracked (pickG [] g) ([] : List Nat).length, w0 := w }
        have noT : ∀ b, ¬ Tracked (pickG [] g) ([] : List Nat).length b := fun b ⟨o, ho, _⟩ => by simp at ho
        have hI1 : Inv E.B.tt c1 w (pickG [] g) [] :=
          ⟨rfl, fun o ob v h => by simp at h, fun o o' b h => by simp at h, fun o b h => by simp at h, Kept.refl _ _, fun b hb => ⟨hb, noT b⟩, hI.tabNow.1, fun b hb => hI.now_all (hI.tabNow.2 b hb)⟩
        intro next Q hn hpn
        unfold Oper.wp
        rw [hrun, hC.enters]
        refine (hC.calls c1 (pickG [] g) (vs ++ us) rfl hI1 (by simp [hvl, hcl, hul]) (fun i hi => ?_)).mono ?_
        · rw [mapr]
          rw [List.length_map] at hi
          have := app (R := fun v x => RepC E.B.tt w (All w) g0 [] v (x.ren fun _ => none)) hcl hcr (fun i hi => (hu i hi).ren' (fun b hb => hI.now_all hb) (LaterM.none _ _ _ _)) i hi
          exact this.mono (fun b hb => ⟨.inl hb, rfl⟩) ⟨fun o v h => by simp [g0] at h, fun o h => by simp [g0] at h, fun o T n h => by simp [g0] at h, fun o T v n h => by simp [g0] at h⟩
        · rintro e w' ⟨v, x, g', os2, hI', hg, hr, hc⟩
          have fin : ∀ {K : C → St → R}, (bif scalC x && os2.all (cleanO E.B.tt) then K (x.ren (backM [] s.objs.length)) ⟨s.tmps, setObs (backM [] s.objs.length) s.objs [] os2⟩ else False) → Done E.B.tt c w g s.objs nt a K v w' := by
            intro K hk
            obtain ⟨hsc, hk⟩ := bif_some hk
            simp only [Bool.and_eq_true] at hsc
            obtain ⟨hB, hLM, _⟩ := hI.back hp (c1 := c1) rfl rfl hI' hg (fun hLM hN j i ob u hm h1 h2 h3 h4 => by
              have hRO := hI'.ob j ob u h1 h2
              rcases cleanO_inv (List.all_eq_true.1 hsc.2 ob (List.mem_of_getElem? h1)) with rfl | ⟨T, md, ver, xs, rfl, hcl⟩
              · trivial
              · simp only [Ob.ren, RepO, h3, h4]
                exact RowX.any hcl hRO)
            exact ⟨_, _, _, ⟨hB.inv, hs.dfr, hs.len, fun i => hB.stp.rep (hs.tmp i)⟩, hB.stp, scalC_ren hLM hr hsc.1, hk⟩
          rcases hc with ⟨rfl, hk'⟩ | ⟨rfl, hk'⟩
          · exact hn v w' (fin hk')
          · exact hpn v w' (fin hk')
    · -- a call that takes them
      split at h
      · cases h
      · rename_i cs os1 hargs
        obtain ⟨hok, h⟩ := bif_some h
        obtain ⟨g1, hs1, st1, hcl, hcr⟩ := argsOf_sound (how := 0) (by omega) hs hargs hvl hv
        exact give hs1 st1 hcl hcr hok h fun v w' g3 os2 x h1 h2 h3 => ⟨fun hk => ⟨_, _, _, h1, h2, h3, hk⟩, fun hk => ⟨_, _, _, h1, h2, h3, hk⟩⟩

end Go.Proofs.EN
