/- Contracts of functions of this program, by the evaluator EN. No conditions but those that each theorem states. -/
import Derived.Test.YtekcghhacpllaaaGreatDoorEN17
/- Arguments of calls. -/
namespace Go.Proofs.EN
open Go
set_option linter.unusedVariables false
set_option linter.unusedSimpArgs false
variable {tt : TypeId → Option TI} {P : Program} {c : Ctx} {w : World} {g : Gh} {os : List Ob} {S : Nat → Prop}

theorem bif_none {α : Type} {b : Bool} {x : Option α} {fin : α} (h : (bif b then none else x) = some fin) : b = false ∧ x = some fin := by
  cases b
  · exact ⟨rfl, h⟩
  · cases h
theorem toD_one {k : CK} {x : C} {os os' : List Ob} {d : D} (h : toD k x os = some (d, os')) : x.one = true := by
  unfold toD at h
  split at h <;> first
    | rfl
    | cases h
theorem toDs_one : ∀ {ks : List CK} {xs : List C} {os os' : List Ob} {ds : List D}, toDs ks xs os = some (ds, os') → xs.all C.one = true
  | [], [], _, _, _, _ => rfl
  | k :: ks, x :: xs, os, os', ds, h => by
    simp only [toDs] at h
    split at h
    · rename_i d os1 h1
      split at h
      · rename_i ds2 os2 h2
        simp [toD_one h1]
        simpa using toDs_one h2
      · cases h
    · cases h
  | [], _ :: _, _, _, _, h => by simp [toDs] at h
  | _ :: _, [], _, _, _, h => by simp [toDs] at h

/-- What may lie in one cell, or stands there. -/
def C.one2 : C → Bool
  | .undef => false
  | .unw => false
  | .agg _ => false
  | .tuple _ => false
  | _ => true
theorem one2_rep {v : Value} {x : C} (h : RepC tt w S g os v x) (h1 : x.one2 = true) : v.oneCell' = true := by
  cases h with
  | undef v => cases h1
  | unw => cases h1
  | d v x h => exact h.one
  | cap0 a => rfl
  | full a T xs n hn h => rfl
  | row v o ho h h2 => exact h2
  | nst v e o ver i off ho h h2 => exact h2
  | nsl v e o ver i off lo n ho h h2 => exact h2
  | ref o off b h => rfl
  | lp ks ds off b o2 vs hS hf hc hr => rfl
  | rp o i off b p ho h => rfl
  | np e o ver i off j f b p ho h => rfl
  | func f caps vs hl h => rfl
  | nilF => rfl
  | zed v h => exact h
  | agg cs vs hl h => cases h1
  | tuple cs vs hl h => cases h1
  | mp o b h => rfl
theorem one_one2 {x : C} (h : x.one = true) : x.one2 = true := by cases x <;> first | rfl | cases h
theorem all_one2 {cs : List C} (h : cs.all C.one = true) : cs.all C.one2 = true := by
  rw [List.all_eq_true] at h ⊢
  exact fun x hx => one_one2 (h x hx)
theorem cells_rep2 {v : Value} {x : C} (h : RepC tt w S g os v x) (h1 : (cellsC x).all C.one2 = true) :
    v.cells.size = (cellsC x).length ∧ ∀ i, i < (cellsC x).length → RepC tt w S g os (v.cells.getD i Go.undef) ((cellsC x).getD i .undef) := by
  by_cases ha : ∃ cs, x = .agg cs
  · obtain ⟨cs, rfl⟩ := ha
    cases h with
    | agg _ vs hl hr => exact ⟨hl, hr⟩
  · have hx : cellsC x = [x] := by cases x <;> first | rfl | exact absurd ⟨_, rfl⟩ ha
    rw [hx] at h1 ⊢
    have h2 : x.one2 = true := by simpa using h1
    rw [one_cells (one2_rep h h2)]
    refine ⟨rfl, fun i hi => ?_⟩
    have : i = 0 := by simp at hi; omega
    subst this
    exact h
/-- A value's cells make the value again. -/
theorem mkC_back {v : Value} {x : C} {ag : Bool} {cv : C} {cs : List C} {S' : Nat → Prop} {g' : Gh} {os' : List Ob} (hx : RepC tt w S g os v x) (h1 : (cellsC x).all C.one2 = true) (ha : x.isAgg = ag) (hl : cs.length = (cellsC x).length)
    (hr : ∀ i, i < cs.length → RepC tt w S' g' os' (v.cells.getD i Go.undef) (cs.getD i .undef)) (hmk : mkC ag cs = some cv) : RepC tt w S' g' os' v cv := by
  obtain ⟨hsz, _⟩ := cells_rep2 hx h1
  have := mkC_rep (tt := tt) (w := w) (S := S') (g := g') (os := os') (vs := v.cells) hmk (by omega) hr
  subst ha
  by_cases ha : ∃ cs, x = .agg cs
  · obtain ⟨cs, rfl⟩ := ha
    cases hx with
    | agg _ vs _ _ => exact this
  · have hx' : cellsC x = [x] := by cases x <;> first | rfl | exact absurd ⟨_, rfl⟩ ha
    have hag : x.isAgg = false := by cases x <;> first | rfl | exact absurd ⟨_, rfl⟩ ha
    rw [hx'] at h1
    rw [hag, one_cells (one2_rep hx (by simpa using h1))] at this
    exact this
theorem map_d_getD {ds : List D} {i : Nat} (hi : i < ds.length) : (ds.map C.d).getD i .undef = .d (ds.getD i .z) := by
  simp [List.getD_eq_getElem?_getD, hi]

/-! ### Looked at -/
theorem RepW.all {md : Md} {v : Value} {d : D} {o : Nat} {φ : Nat → Prop} (hI : Inv tt c w g os) (ho : o < os.length) (hφ : ∀ b, φ b → g.φ o b) (h : RepW tt w (Now c w g os.length) md v d φ) : Rep tt w (All w) v d :=
  h.frz (fun b hb => hI.now_all hb) (fun b hb => (hI.own o b ho (hφ b hb)).2)
theorem nst_all (hI : Inv tt c w g os) {e : TypeId} {o ver i off : Nat} {v : Value} {T0 : TypeId} {md : Md} {xs : List (List D)} (hx : RepC tt w (Now c w g os.length) g os v (.nst e o ver i off)) (ho : os[o]? = some (.row T0 md ver xs)) (hz : md.isZ = false) :
    Rep tt w (All w) v (.list e (nstF xs i off)) := by
  cases hx with
  | nst _ _ _ _ _ _ hlt h h1 =>
    obtain ⟨_, h2⟩ := h T0 ver xs.length (.inl ⟨md, xs, ho, rfl⟩)
    obtain ⟨rfl, hi, ti, hti, he⟩ := h2 rfl
    obtain ⟨v0, hv0⟩ := hI.eta ho
    obtain ⟨φ', h3, _, h4⟩ := nst_inv (hI.ob o _ v0 ho hv0) hz hi hti he
    exact h4.all hI (ob_lt ho) h3
theorem map_all (hI : Inv tt c w g os) {e : TypeId} {o ver i : Nat} {v : Value} {K V : TypeId} {md : Md} {es : List (D × D)} (hx : RepC tt w (Now c w g os.length) g os v (.nst e o ver i 0)) (ho : os[o]? = some (.map K V md ver es)) :
    Rep tt w (All w) v (.list e (mapF es i)) := by
  cases hx with
  | nst _ _ _ _ _ _ hlt h h1 =>
    obtain ⟨rfl, hi, ti, hti, he⟩ := (h V ver es.length (.inr (.inr (.inl ⟨K, md, es, ho, Nat.le_refl _⟩)))).2 rfl
    obtain ⟨v0, hv0⟩ := hI.eta ho
    obtain ⟨φ', h3, _, h4⟩ := map_inv (hI.ob o _ v0 ho hv0) hi hti he
    exact h4.all hI (ob_lt ho) h3
theorem nsl_all (hI : Inv tt c w g os) {e : TypeId} {o ver i off lo n : Nat} {v : Value} {T0 : TypeId} {md : Md} {xs : List (List D)} (hx : RepC tt w (Now c w g os.length) g os v (.nsl e o ver i off lo n)) (ho : os[o]? = some (.row T0 md ver xs)) (hz : md.isZ = false) :
    Rep tt w (All w) v (.list e (nstL xs i off lo n)) := by
  cases hx with
  | nsl _ _ _ _ _ _ _ _ hlt h h1 =>
    obtain ⟨_, h2⟩ := h T0 ver xs.length (.inl ⟨md, xs, ho, rfl⟩)
    obtain ⟨⟨te, hte, a, m, cap, hv, hle, rfl⟩, hi, ti, hti, he⟩ := h2 rfl
    obtain ⟨v0, hv0⟩ := hI.eta ho
    obtain ⟨φ', h3, _, h4⟩ := nst_inv (hI.ob o _ v0 ho hv0) hz hi hti he
    have h5 := h4.all hI (ob_lt ho) h3
    rw [hv] at h5
    obtain ⟨rfl, hc, _, _⟩ := h5.laid
    have := h5.sub (l := lo) (r := lo + n) (by omega) hle cap (cap - lo) te.cells.length (fun ti hti => by rw [hte] at hti; cases hti; rfl) (fun hcl => by omega) (by omega)
    rw [show lo + n - lo = n by omega] at this
    exact this
theorem peek_sound {nt : Nat} {a : Act} {s : St} (hs : RepSt tt c w g nt a s) {k : CK} {x : C} {v : Value} {d : D} (h : peek k x s.objs = some d) (hx : RepC tt w (Now c w g s.objs.length) g s.objs v x) : Rep tt w (All w) v d ∧ k.fits d ∧ x.one2 = true := by
  unfold peek at h
  split at h
  · rename_i e e' o ver i off
    split at h
    · rename_i T md ver' xs ho
      obtain ⟨hc, hk⟩ := bif_some' h
      simp only [Bool.and_eq_true, Bool.not_eq_true'] at hc
      obtain ⟨h1, h2, h3⟩ := hc
      have h1 := Nat.eq_of_beq_eq_true h1
      have h2 := Nat.eq_of_beq_eq_true h2
      subst h1 h2
      simp only [Option.some.injEq] at hk
      subst hk
      exact ⟨nst_all hs.inv hx (getD_some ho (by simp)) h3, ⟨_, rfl⟩, rfl⟩
    · rename_i K V md ver' es ho
      obtain ⟨hc, hk⟩ := bif_some' h
      simp only [Bool.and_eq_true, Bool.not_eq_true'] at hc
      obtain ⟨h1, h2, h3, h4⟩ := hc
      have h1 := Nat.eq_of_beq_eq_true h1
      have h2 := Nat.eq_of_beq_eq_true h2
      have h4 := Nat.eq_of_beq_eq_true h4
      subst h1 h2 h4
      simp only [Option.some.injEq] at hk
      subst hk
      exact ⟨map_all hs.inv hx (getD_some ho (by simp)), ⟨_, rfl⟩, rfl⟩
    · cases h
  · rename_i e e' o ver i off lo n
    split at h
    · rename_i T md ver' xs ho
      obtain ⟨hc, hk⟩ := bif_some' h
      simp only [Bool.and_eq_true, Bool.not_eq_true'] at hc
      obtain ⟨h1, h2, h3⟩ := hc
      have h1 := Nat.eq_of_beq_eq_true h1
      have h2 := Nat.eq_of_beq_eq_true h2
      subst h1 h2
      simp only [Option.some.injEq] at hk
      subst hk
      exact ⟨nsl_all hs.inv hx (getD_some ho (by simp)) h3, ⟨_, rfl⟩, rfl⟩
    · cases h
  · split at h
    · rename_i d' os' hd
      cases h
      obtain ⟨g1, hs', _, hr, hf⟩ := toD_sound hs hd hx
      exact ⟨hr.mono fun b hb => ⟨hs'.inv.now_all hb, rfl⟩, hf, one_one2 (toD_one hd)⟩
    · cases h
theorem peeks_sound {nt : Nat} {a : Act} {s : St} (hs : RepSt tt c w g nt a s) : ∀ {ks : List CK} {xs : List C} {vs : List Value} {ds : List D}, peeks ks xs s.objs = some ds → vs.length = xs.length →
    (∀ i, i < xs.length → RepC tt w (Now c w g s.objs.length) g s.objs (vs.getD i Go.undef) (xs.getD i .undef)) →
    ds.length = ks.length ∧ xs.length = ks.length ∧ (∀ i, i < ks.length → Rep tt w (All w) (vs.getD i Go.undef) (ds.getD i .z)) ∧ fitsAll ks ds
  | [], [], vs, ds, h, hl, hr => by
    simp only [peeks, Option.some.injEq] at h
    subst h
    exact ⟨rfl, rfl, fun i hi => by simp at hi, trivial⟩
  | k :: ks, x :: xs, vs, ds, h, hl, hr => by
    simp only [peeks] at h
    split at h
    · rename_i d h1
      split at h
      · rename_i ds2 h2
        cases h
        match vs, hl with
        | v :: vs, hl =>
        have h3 := peek_sound hs h1 (by simpa using hr 0 (by simp))
        obtain ⟨i1, i2, i3, i4⟩ := peeks_sound hs h2 (by simpa using hl) (fun i hi => by simpa using hr (i + 1) (by simpa using hi))
        refine ⟨by simp [i1], by simp [i2], fun i hi => ?_, ⟨h3.2.1, i4⟩⟩
        cases i with
        | zero => simpa using h3.1
        | succ i => simpa using i3 i (by simpa using hi)
      · cases h
    · cases h
  | [], _ :: _, _, _, h, _, _ => by simp [peeks] at h
  | _ :: _, [], _, _, h, _, _ => by simp [peeks] at h
theorem peek_one2 {k : CK} {x : C} {d : D} (h : peek k x os = some d) : x.one2 = true := by
  unfold peek at h
  split at h
  · rfl
  · rfl
  · split at h
    · rename_i hd
      exact one_one2 (toD_one hd)
    · cases h
theorem peeks_one2 : ∀ {ks : List CK} {xs : List C} {os : List Ob} {ds : List D}, peeks ks xs os = some ds → xs.all C.one2 = true
  | [], [], _, _, _ => rfl
  | k :: ks, x :: xs, os, ds, h => by
    simp only [peeks] at h
    split at h
    · rename_i d h1
      split at h
      · rename_i ds2 h2
        simp [peek_one2 h1]
        simpa using peeks_one2 h2
      · cases h
    · cases h
  | [], _ :: _, _, _, h => by simp [peeks] at h
  | _ :: _, [], _, _, h => by simp [peeks] at h

/-! ### The arguments of a call that takes them -/
theorem argCs_sound {nt : Nat} {a : Act} {s : St} (hs : RepSt tt c w g nt a s) {how : Nat} (hh : how ≠ 1) {ti : TI} {x cv : C} {v : Value} {cs : List C} {os' : List Ob} (h : argCs how ti x s.objs = some (cs, os')) (hmk : mkC ti.uk.isAgg cs = some cv) (hx : RepC tt w (Now c w g s.objs.length) g s.objs v x) :
    ∃ g', RepSt tt c w g' nt a ⟨s.tmps, os'⟩ ∧ Stp c w g s.objs w g' os' ∧ RepC tt w (Now c w g' os'.length) g' os' v cv := by
  unfold argCs at h
  obtain ⟨hc, hd⟩ := bif_some' h
  simp only [Bool.and_eq_true, beq_iff_eq] at hc
  split at hd
  · exact absurd rfl hh
  · obtain ⟨h1, h2⟩ := bif_some' hd
    simp only [Bool.and_eq_true] at h1
    cases h2
    have hone := all_one2 h1.1
    obtain ⟨hcs, hcr⟩ := cells_rep2 hx hone
    exact ⟨g, hs, .refl _ _ _ _, mkC_back hx hone hc.2 rfl hcr hmk⟩
  · split at hd
    · rename_i ds os1 hd'
      cases hd
      have hone := all_one2 (toDs_one hd')
      obtain ⟨hcs, hcr⟩ := cells_rep2 hx hone
      obtain ⟨g1, hs1, st1, hdl, hxl, hrep, hfit⟩ := toDs_sound (vs := v.cells.toList) hs hd' (by simpa using hcs) (fun i hi => by rw [getD_toList]; exact hcr i hi)
      refine ⟨g1, hs1, st1, mkC_back hx hone hc.2 (by simp; omega) (fun i hi => ?_) hmk⟩
      have hi' : i < ds.length := by simpa using hi
      rw [map_d_getD hi']
      have := hrep i (by omega)
      rw [getD_toList] at this
      exact .d _ _ this
    · cases hd
theorem argsOf_sound {E : Env} {how : Nat} (hh : how ≠ 1) {nt : Nat} {a : Act} : ∀ {targs : List (TypeId × C)} {vs : List Value} {g : Gh} {s : St} {cs : List C} {os' : List Ob}, RepSt tt c w g nt a s → argsOf E how targs s.objs = some (cs, os') → vs.length = targs.length →
    (∀ i, i < targs.length → RepC tt w (Now c w g s.objs.length) g s.objs (vs.getD i Go.undef) (targs.getD i (0, .undef)).2) →
    ∃ g', RepSt tt c w g' nt a ⟨s.tmps, os'⟩ ∧ Stp c w g s.objs w g' os' ∧ cs.length = targs.length ∧ ∀ i, i < cs.length → RepC tt w (Now c w g' os'.length) g' os' (vs.getD i Go.undef) (cs.getD i .undef)
  | [], vs, g, s, cs, os', hs, h, hl, hr => by
    simp only [argsOf_nil, Option.some.injEq, Prod.mk.injEq] at h
    obtain ⟨rfl, rfl⟩ := h
    exact ⟨g, hs, .refl _ _ _ _, rfl, fun i hi => by simp at hi⟩
  | (T, x) :: r, vs, g, s, cs, os', hs, h, hl, hr => by
    match vs, hl with
    | v :: vs, hl =>
    have hx : RepC tt w (Now c w g s.objs.length) g s.objs v x := by simpa using hr 0 (by simp)
    have hr' : ∀ i, i < r.length → RepC tt w (Now c w g s.objs.length) g s.objs (vs.getD i Go.undef) (r.getD i (0, .undef)).2 := fun i hi => by simpa using hr (i + 1) (by simpa using hi)
    simp only [argsOf_cons] at h
    split at h
    · cases h
    · rename_i ti hti
      split at h
      · rename_i ds os1 hd
        split at h
        · rename_i c' cs2 os2 hmk hrest
          simp only [Option.some.injEq, Prod.mk.injEq] at h
          obtain ⟨rfl, rfl⟩ := h
          obtain ⟨g1, hs1, st1, h0⟩ := argCs_sound hs hh hd hmk hx
          obtain ⟨g2, hs2, st2, hl2, hr2⟩ := argsOf_sound hh (s := ⟨s.tmps, os1⟩) (vs := vs) hs1 hrest (by simpa using hl) (fun i hi => st1.rep (hr' i hi))
          refine ⟨g2, hs2, st1.trans st2, by simp [hl2], fun i hi => ?_⟩
          cases i with
          | zero => simpa using st2.rep h0
          | succ i => simpa using hr2 i (by simpa using hi)
        · cases h
      · obtain ⟨_, h'⟩ := bif_none h
        clear h
        split at h'
        · rename_i cs2 os2 hrest
          simp only [Option.some.injEq, Prod.mk.injEq] at h'
          obtain ⟨rfl, rfl⟩ := h'
          obtain ⟨g2, hs2, st2, hl2, hr2⟩ := argsOf_sound hh (s := s) (vs := vs) hs hrest (by simpa using hl) hr'
          refine ⟨g2, hs2, st2, by simp [hl2], fun i hi => ?_⟩
          cases i with
          | zero => simpa using st2.rep hx
          | succ i => simpa using hr2 i (by simpa using hi)
        · cases h'

def g0 : Gh := ⟨[], fun _ _ _ => Go.undef, fun _ _ => False⟩
/-- What lies in no object's reach: the arguments of a call that only looks. -/
theorem argsOf_look {E : Env} {nt : Nat} {a : Act} {s : St} (hs : RepSt tt c w g nt a s) : ∀ {targs : List (TypeId × C)} {vs : List Value} {cs : List C} {os' : List Ob}, argsOf E 1 targs s.objs = some (cs, os') → vs.length = targs.length →
    (∀ i, i < targs.length → RepC tt w (Now c w g s.objs.length) g s.objs (vs.getD i Go.undef) (targs.getD i (0, .undef)).2) →
    cs.length = targs.length ∧ ∀ i, i < cs.length → RepC tt w (All w) g0 [] (vs.getD i Go.undef) ((cs.getD i .undef).ren fun _ => none)
  | [], vs, cs, os', h, hl, hr => by
    simp only [argsOf_nil, Option.some.injEq, Prod.mk.injEq] at h
    obtain ⟨rfl, rfl⟩ := h
    exact ⟨rfl, fun i hi => by simp at hi⟩
  | (T, x) :: r, vs, cs, os', h, hl, hr => by
    match vs, hl with
    | v :: vs, hl =>
    have hx : RepC tt w (Now c w g s.objs.length) g s.objs v x := by simpa using hr 0 (by simp)
    have hr' : ∀ i, i < r.length → RepC tt w (Now c w g s.objs.length) g s.objs (vs.getD i Go.undef) (r.getD i (0, .undef)).2 := fun i hi => by simpa using hr (i + 1) (by simpa using hi)
    simp only [argsOf_cons] at h
    split at h
    · cases h
    · rename_i ti hti
      split at h
      · rename_i ds os1 hd
        split at h
        · rename_i c' cs2 os2 hmk hrest
          simp only [Option.some.injEq, Prod.mk.injEq] at h
          obtain ⟨rfl, rfl⟩ := h
          unfold argCs at hd
          obtain ⟨hc, hd⟩ := bif_some' hd
          simp only [Bool.and_eq_true, beq_iff_eq] at hc hd
          split at hd
          · rename_i ds' hpk
            simp only [Option.some.injEq, Prod.mk.injEq] at hd
            obtain ⟨rfl, rfl⟩ := hd
            have hone := peeks_one2 hpk
            obtain ⟨hcs, hcr⟩ := cells_rep2 hx hone
            obtain ⟨hdl, hxl, hrep, hfit⟩ := peeks_sound hs (vs := v.cells.toList) hpk (by simpa using hcs) (fun i hi => by rw [getD_toList]; exact hcr i hi)
            have h0 : RepC tt w (All w) g s.objs v c' := mkC_back hx hone hc.2 (by simp; omega) (fun i hi => by
              have hi' : i < ds'.length := by simpa using hi
              rw [map_d_getD hi']
              have := hrep i (by omega)
              rw [getD_toList] at this
              exact .d _ _ this) hmk
            obtain ⟨hl2, hr2⟩ := argsOf_look hs (vs := vs) hrest (by simpa using hl) hr'
            refine ⟨by simp [hl2], fun i hi => ?_⟩
            cases i with
            | zero => simpa using h0.ren' (m := fun _ => none) (fun b hb => hb) (LaterM.none _ _ _ _)
            | succ i => simpa using hr2 i (by simpa using hi)
          · cases hd
        · cases h
      · obtain ⟨_, h'⟩ := bif_none h
        clear h
        split at h'
        · rename_i cs2 os2 hrest
          simp only [Option.some.injEq, Prod.mk.injEq] at h'
          obtain ⟨rfl, rfl⟩ := h'
          obtain ⟨hl2, hr2⟩ := argsOf_look hs (vs := vs) hrest (by simpa using hl) hr'
          refine ⟨by simp [hl2], fun i hi => ?_⟩
          cases i with
          | zero => simpa using hx.ren' (m := fun _ => none) (fun b hb => hs.inv.now_all hb) (LaterM.none _ _ _ _)
          | succ i => simpa using hr2 i (by simpa using hi)
        · cases h'

/-! ### Slices taken out of cells for a call -/
def OpenD (tt : TypeId → Option TI) (g : Gh) (os : List Ob) : Nat × Nat × Nat × Nat × Nat → Prop
  | (o, m, ver, i, off) => o < g.η.length ∧ m < g.η.length ∧ ∀ T ver' n, isRH os o T ver' n → ver ≤ ver' ∧ (ver' = ver → g.η[m]? = some (g.ν o i off) ∧ i < n ∧ ∃ ti e, tt T = some ti ∧ ti.cells[off]? = some (.list e) ∧ ∀ T' n', isR3 os m T' n' → T' = e)
theorem OpenD.mono {g' : Gh} {os' : List Ob} {p : Nat × Nat × Nat × Nat × Nat} (h : OpenD tt g os p) (hl : Later g os g' os') : OpenD tt g' os' p := by
  obtain ⟨o, m, ver, i, off⟩ := p
  obtain ⟨h1, h2, h3⟩ := h
  refine ⟨hl.lt h1, hl.lt h2, fun T ver' n hx => ?_⟩
  obtain ⟨v1, l1, h4, h5⟩ := hl.rh o T ver' n h1 hx
  obtain ⟨l2, h6⟩ := h3 T v1 n h4
  refine ⟨by omega, fun he => ?_⟩
  obtain ⟨h7, h8, ti, e, h9, h10, h11⟩ := h6 (by omega)
  refine ⟨?_, h8, ti, e, h9, h10, fun T' n' hx' => h11 T' n' (hl.r3 m T' n' h2 hx')⟩
  rw [h5 (by omega)]
  exact hl.ext m _ h7
theorem shutObs_sound {nt : Nat} {a : Act} : ∀ {l : List (Nat × Nat × Nat × Nat × Nat)} {g : Gh} {s : St} {K : List Ob → R}, RepSt tt c w g nt a s → (∀ p ∈ l, OpenD tt g s.objs p) → shutObs l s.objs K → ∃ g' os', RepSt tt c w g' nt a ⟨s.tmps, os'⟩ ∧ Stp c w g s.objs w g' os' ∧ K os'
  | [], g, s, K, hs, hp, h => ⟨g, s.objs, hs, .refl _ _ _ _, h⟩
  | (o, m, ver0, i0, off0) :: r, g, s, K, hs, hp, h => by
    obtain ⟨g1, os1, hs1, st1, h⟩ := shutObs_sound hs (fun p hp' => hp p (List.mem_cons_of_mem _ hp')) (h : shutObs r s.objs _)
    obtain ⟨h1, h2, h3⟩ := (hp _ List.mem_cons_self).mono st1.later
    split at h
    · rename_i T0 md ver xs i off e md' ver2 ys ho hm
      obtain ⟨hmd, hk⟩ := bif_some h
      obtain ⟨⟨rfl, rfl, rfl⟩, hk⟩ := hk
      have ho := getD_some ho (by simp)
      have hm := getD_some hm (by simp)
      obtain ⟨_, h4⟩ := h3 T0 ver xs.length (.inr (.inl ⟨md, xs, i, off, ho, rfl⟩))
      obtain ⟨h5, h6, ti, e', h7, h8, h9⟩ := h4 rfl
      have : e = e' := h9 e ys.length (.inl ⟨md', ver2, ys, hm, rfl⟩)
      subst this
      obtain ⟨g2, hs2, st2⟩ := shut_step hs1 ho hm (Md.beq_eq hmd) h5 h6 h7 h8
      exact ⟨g2, _, hs2, st1.trans st2, hk⟩
    · cases h

theorem openCs_len : ∀ (ks : List CK) (cs : List C) (os : List Ob), (openCs tt ks cs os).1.length = cs.length
  | [], cs, os => by cases cs <;> rfl
  | _ :: _, [], os => rfl
  | k :: ks, x :: cs, os => by
    simp only [openCs]
    split
    · cases rowT tt _ <;> simp [openCs_len]
    · split
      · cases Nat.beq _ _ && (!Md.isZ _ && rowT tt _) <;> simp [openCs_len]
      · simp [openCs_len]
    · simp [openCs_len]
theorem openCs_sound {nt : Nat} {a : Act} : ∀ {ks : List CK} {xs : List C} {g : Gh} {s : St} {vs : List Value} {xs' : List C} {os' : List Ob} {l : List (Nat × Nat × Nat × Nat × Nat)}, RepSt tt c w g nt a s → openCs tt ks xs s.objs = (xs', os', l) → vs.length = xs.length →
    (∀ i, i < xs.length → RepC tt w (Now c w g s.objs.length) g s.objs (vs.getD i Go.undef) (xs.getD i .undef)) →
    ∃ g', RepSt tt c w g' nt a ⟨s.tmps, os'⟩ ∧ Stp c w g s.objs w g' os' ∧ (∀ i, i < xs'.length → RepC tt w (Now c w g' os'.length) g' os' (vs.getD i Go.undef) (xs'.getD i .undef)) ∧ ∀ p ∈ l, OpenD tt g' os' p
  | [], xs, g, s, vs, xs', os', l, hs, h, hl, hr => by
    have h : (xs, s.objs, []) = (xs', os', l) := by cases xs <;> exact h
    cases h
    exact ⟨g, hs, .refl _ _ _ _, hr, fun p hp => by cases hp⟩
  | _ :: _, [], g, s, vs, xs', os', l, hs, h, hl, hr => by
    cases h
    exact ⟨g, hs, .refl _ _ _ _, hr, fun p hp => by cases hp⟩
  | k :: ks, x :: xs, g, s, vs, xs', os', l, hs, h, hl, hr => by
    match vs, hl with
    | v :: vs, hl =>
    have hx : RepC tt w (Now c w g s.objs.length) g s.objs v x := by simpa using hr 0 (by simp)
    -- the cell, and then the others
    have key : ∀ (g1 : Gh) (os1 : List Ob) (x1 : C) (p1 : List (Nat × Nat × Nat × Nat × Nat)), RepSt tt c w g1 nt a ⟨s.tmps, os1⟩ → Stp c w g s.objs w g1 os1 → RepC tt w (Now c w g1 os1.length) g1 os1 v x1 → (∀ p ∈ p1, OpenD tt g1 os1 p) →
        (match openCs tt ks xs os1 with | (cs', os', l) => (x1 :: cs', os', p1 ++ l)) = (xs', os', l) →
        ∃ g', RepSt tt c w g' nt a ⟨s.tmps, os'⟩ ∧ Stp c w g s.objs w g' os' ∧ (∀ i, i < xs'.length → RepC tt w (Now c w g' os'.length) g' os' ((v :: vs).getD i Go.undef) (xs'.getD i .undef)) ∧ ∀ p ∈ l, OpenD tt g' os' p := by
      intro g1 os1 x1 p1 hs1 st1 hx1 hp1 h
      generalize hq : openCs tt ks xs os1 = q at h
      obtain ⟨xs2, os2, l2⟩ := q
      cases h
      obtain ⟨g2, hs2, st2, hr2, hp2⟩ := openCs_sound (s := ⟨s.tmps, os1⟩) (vs := vs) hs1 hq (by simpa using hl) (fun i hi => st1.rep (by simpa using hr (i + 1) (by simpa using hi)))
      refine ⟨g2, hs2, st1.trans st2, fun i hi => ?_, fun p hp => ?_⟩
      · cases i with
        | zero => simpa using st2.rep hx1
        | succ i => simpa using hr2 i (by simpa using hi)
      · rcases List.mem_append.1 hp with h | h
        · exact (hp1 p h).mono st2.later
        · exact hp2 p h
    have same : (match openCs tt ks xs s.objs with | (cs', os', l) => (x :: cs', os', [] ++ l)) = (xs', os', l) →
        ∃ g', RepSt tt c w g' nt a ⟨s.tmps, os'⟩ ∧ Stp c w g s.objs w g' os' ∧ (∀ i, i < xs'.length → RepC tt w (Now c w g' os'.length) g' os' ((v :: vs).getD i Go.undef) (xs'.getD i .undef)) ∧ ∀ p ∈ l, OpenD tt g' os' p :=
      key g s.objs x [] hs (.refl _ _ _ _) hx (fun p hp => by cases hp)
    simp only [openCs] at h
    split at h
    · rename_i e _
      cases he : rowT tt e with
      | false => simp only [he, cond_false] at h; exact same h
      | true =>
        simp only [he, cond_true] at h
        cases hx with
        | cap0 ad =>
          obtain ⟨h2, h3, h4⟩ := prom_step hs he ad
          exact key _ _ _ [] h2 h3 h4 (fun p hp => by cases hp) h
    · rename_i e0 e o ver i off _
      split at h
      · rename_i T0 md ver' xs0 ho
        cases hc : Nat.beq ver ver' && (!md.isZ && rowT tt e) with
        | false => simp only [hc, cond_false] at h; exact same h
        | true =>
          simp only [hc, cond_true] at h
          simp only [Bool.and_eq_true, Bool.not_eq_true'] at hc
          obtain ⟨h1, h2, h3⟩ := hc
          have h1 := Nat.eq_of_beq_eq_true h1
          subst h1
          have ho := getD_some ho (by simp)
          obtain ⟨te, hte, hde, hke⟩ := rowT_inv h3
          cases hx with
          | nst _ _ _ _ _ _ hlt hh h1 =>
            obtain ⟨_, h5⟩ := hh T0 ver xs0.length (.inl ⟨md, xs0, ho, rfl⟩)
            obtain ⟨rfl, hi, ti, hti, hce⟩ := h5 rfl
            obtain ⟨g1, hs1, st1, e1, e2, _⟩ := open_step hs ho h2 hi hti hce hte hde hke
            have hl1 := hs.inv.len
            have hηm : g1.η[s.objs.length]? = some (g.ν o i off) := by rw [e1, ← hl1]; simp
            have hol := ob_lt ho
            refine key g1 _ _ [(o, s.objs.length, ver, i, off)] hs1 st1 (.row _ _ (by rw [e1]; simp [hl1]) (fun _ => hηm) h1) (fun p hp => ?_) h
            rw [List.mem_singleton] at hp
            subst hp
            refine ⟨by rw [e1]; simp; omega, by rw [e1]; simp [hl1], fun T ver' n hx => ?_⟩
            have hat : (s.objs.set o (Ob.hole T0 md ver xs0 i off) ++ [Ob.row e md.down 0 (nstF xs0 i off)])[o]? = some (Ob.hole T0 md ver xs0 i off) := by
              rw [List.getElem?_append_left (by simpa using hol)]
              simp [hol]
            have hx' : ver' = ver ∧ T = T0 ∧ n = xs0.length := by
              rcases hx with ⟨md1, xs1, h6, h7⟩ | ⟨md1, xs1, i1, j1, h6, h7⟩ | ⟨_, _, _, h6, _⟩ | ⟨_, _, _, _, h6, _⟩ <;> rw [hat] at h6 <;> cases h6
              exact ⟨rfl, rfl, h7.symm⟩
            obtain ⟨rfl, rfl, rfl⟩ := hx'
            refine ⟨Nat.le_refl _, fun _ => ⟨by rw [hηm, e2], hi, ti, e, hti, hce, fun T' n' hx' => ?_⟩⟩
            have hat2 : (s.objs.set o (Ob.hole T md ver' xs0 i off) ++ [Ob.row e md.down 0 (nstF xs0 i off)])[s.objs.length]? = some (Ob.row e md.down 0 (nstF xs0 i off)) := by
              rw [List.getElem?_append_right (by simp)]
              simp
            exact (isR3_row hat2 hx').1
      · exact same h
    · exact same h
/-- A value's cells, whatever they are. -/
theorem cells_any {v : Value} {x : C} (hx : RepC tt w S g os v x) : ∃ vs : List Value, vs.length = (cellsC x).length ∧ (∀ i, i < (cellsC x).length → RepC tt w S g os (vs.getD i Go.undef) ((cellsC x).getD i .undef)) ∧
    ∀ {ag : Bool} {cs : List C} {cv : C} {S' : Nat → Prop} {g' : Gh} {os' : List Ob}, x.isAgg = ag → cs.length = (cellsC x).length → (∀ i, i < cs.length → RepC tt w S' g' os' (vs.getD i Go.undef) (cs.getD i .undef)) → mkC ag cs = some cv → RepC tt w S' g' os' v cv := by
  by_cases ha : ∃ cs, x = .agg cs
  · obtain ⟨cs0, rfl⟩ := ha
    cases hx with
    | agg _ us hl0 hr0 =>
      have e : cellsC (.agg cs0) = cs0 := rfl
      rw [e]
      refine ⟨us.toList, by simpa using hl0, fun i hi => by rw [getD_toList]; exact hr0 i hi, fun ha hl hr hmk => ?_⟩
      subst ha
      cases hmk
      exact .agg _ _ (by omega) fun i hi => by rw [← getD_toList]; exact hr i hi
  · have hx' : cellsC x = [x] := by cases x <;> first | rfl | exact absurd ⟨_, rfl⟩ ha
    have hag : x.isAgg = false := by cases x <;> first | rfl | exact absurd ⟨_, rfl⟩ ha
    rw [hx']
    refine ⟨[v], rfl, fun i hi => ?_, fun {ag cs cv S' g' os'} ha hl hr hmk => ?_⟩
    · have : i = 0 := by simp at hi; omega
      subst this
      exact hx
    · rw [hag] at ha
      subst ha
      match cs, hl with
      | [y], _ =>
        cases hmk
        simpa using hr 0 (by simp)
theorem openArgs_sound {E : Env} (hE : E.B.tt = tt) {nt : Nat} {a : Act} : ∀ {targs targs' : List (TypeId × C)} {g : Gh} {s : St} {vs : List Value} {os' : List Ob} {l : List (Nat × Nat × Nat × Nat × Nat)}, RepSt tt c w g nt a s → openArgs E targs s.objs = (targs', os', l) → vs.length = targs.length →
    (∀ i, i < targs.length → RepC tt w (Now c w g s.objs.length) g s.objs (vs.getD i Go.undef) (targs.getD i (0, .undef)).2) →
    ∃ g', RepSt tt c w g' nt a ⟨s.tmps, os'⟩ ∧ Stp c w g s.objs w g' os' ∧ targs'.length = targs.length ∧ (∀ i, i < targs'.length → RepC tt w (Now c w g' os'.length) g' os' (vs.getD i Go.undef) (targs'.getD i (0, .undef)).2) ∧ ∀ p ∈ l, OpenD tt g' os' p
  | [], targs', g, s, vs, os', l, hs, h, hl, hr => by
    cases h
    exact ⟨g, hs, .refl _ _ _ _, rfl, fun i hi => by simp at hi, fun p hp => by cases hp⟩
  | (T, x) :: r, targs', g, s, vs, os', l, hs, h, hl, hr => by
    match vs, hl with
    | v :: vs, hl =>
    have hx : RepC tt w (Now c w g s.objs.length) g s.objs v x := by simpa using hr 0 (by simp)
    have key : ∀ (g1 : Gh) (os1 : List Ob) (x1 : C) (p1 : List (Nat × Nat × Nat × Nat × Nat)), RepSt tt c w g1 nt a ⟨s.tmps, os1⟩ → Stp c w g s.objs w g1 os1 → RepC tt w (Now c w g1 os1.length) g1 os1 v x1 → (∀ p ∈ p1, OpenD tt g1 os1 p) →
        (match openArgs E r os1 with | (r', os2, l2) => ((T, x1) :: r', os2, p1 ++ l2)) = (targs', os', l) →
        ∃ g', RepSt tt c w g' nt a ⟨s.tmps, os'⟩ ∧ Stp c w g s.objs w g' os' ∧ targs'.length = ((T, x) :: r).length ∧ (∀ i, i < targs'.length → RepC tt w (Now c w g' os'.length) g' os' ((v :: vs).getD i Go.undef) (targs'.getD i (0, .undef)).2) ∧ ∀ p ∈ l, OpenD tt g' os' p := by
      intro g1 os1 x1 p1 hs1 st1 hx1 hp1 h
      generalize hq : openArgs E r os1 = q at h
      obtain ⟨r2, os2, l2⟩ := q
      cases h
      obtain ⟨g2, hs2, st2, hl2, hr2, hp2⟩ := openArgs_sound hE (s := ⟨s.tmps, os1⟩) (vs := vs) hs1 hq (by simpa using hl) (fun i hi => st1.rep (by simpa using hr (i + 1) (by simpa using hi)))
      refine ⟨g2, hs2, st1.trans st2, by simp [hl2], fun i hi => ?_, fun p hp => ?_⟩
      · cases i with
        | zero => simpa using st2.rep hx1
        | succ i => simpa using hr2 i (by simpa using hi)
      · rcases List.mem_append.1 hp with h | h
        · exact (hp1 p h).mono st2.later
        · exact hp2 p h
    have same := key g s.objs x [] hs (.refl _ _ _ _) hx (fun p hp => by cases hp)
    simp only [openArgs] at h
    split at h
    · rename_i ti hti
      cases hag : C.isAgg x == ti.uk.isAgg with
      | false => simp only [hag, cond_false] at h; exact same h
      | true =>
        simp only [hag, cond_true] at h
        generalize hq : openCs E.B.tt ti.cells (cellsC x) s.objs = q at h
        obtain ⟨cs1, os1, l1⟩ := q
        simp only at h
        split at h
        · rename_i c' hmk
          have hlen : cs1.length = (cellsC x).length := by
            have := openCs_len (tt := E.B.tt) ti.cells (cellsC x) s.objs
            rw [hq] at this
            exact this
          rw [hE] at hq
          obtain ⟨vs0, hv0, hr0, hmk0⟩ := cells_any hx
          obtain ⟨g1, hs1, st1, hr1, hp1⟩ := openCs_sound hs hq hv0 hr0
          exact key g1 os1 c' l1 hs1 st1 (hmk0 (by simpa using hag) hlen hr1 hmk) hp1 h
        · exact same h
    · exact same h

end Go.Proofs.EN
