/- Contracts of functions of this program, by the evaluator EN. No conditions but those that each theorem states. -/
import Derived.Test.YtekcghhacpllaaaGreatDoorEN7
/- Values taken into data and into rows. -/
namespace Go.Proofs.EN
open Go
set_option linter.unusedVariables false
set_option linter.unusedSimpArgs false
variable {tt : TypeId → Option TI} {P : Program} {c : Ctx} {w : World} {g : Gh} {os : List Ob} {S : Nat → Prop}

/-- What was known is known still. -/
structure Stp (c : Ctx) (w : World) (g : Gh) (os : List Ob) (w' : World) (g' : Gh) (os' : List Ob) : Prop where
  later : Later g os g' os'
  now : ∀ b, Now c w g os.length b → Now c w' g' os'.length b ∧ w'.heap[b]? = w.heap[b]?
theorem Stp.refl (c : Ctx) (w : World) (g : Gh) (os : List Ob) : Stp c w g os w g os := ⟨.refl _ _, fun _ h => ⟨h, rfl⟩⟩
theorem Stp.trans {w' w'' : World} {g' g'' : Gh} {os' os'' : List Ob} (h : Stp c w g os w' g' os') (k : Stp c w' g' os' w'' g'' os'') : Stp c w g os w'' g'' os'' :=
  ⟨h.later.trans k.later, fun b hb => ⟨(k.now b (h.now b hb).1).1, (k.now b (h.now b hb).1).2.trans (h.now b hb).2⟩⟩
theorem Stp.rep {w' : World} {g' : Gh} {os' : List Ob} (h : Stp c w g os w' g' os') {v : Value} {x : C} (hx : RepC tt w (Now c w g os.length) g os v x) : RepC tt w' (Now c w' g' os'.length) g' os' v x := hx.mono h.now h.later
theorem Stp.repD {w' : World} {g' : Gh} {os' : List Ob} (h : Stp c w g os w' g' os') {v : Value} {x : D} (hx : Rep tt w (Now c w g os.length) v x) : Rep tt w' (Now c w' g' os'.length) v x := hx.mono h.now
theorem Chg.stp (hI : Inv tt c w g os) {w' : World} {g' : Gh} {os' : List Ob} (h : Chg c w g os w' g' os') : Stp c w g os w' g' os' := ⟨h.later, h.now hI⟩

theorem RepC.row_inv {v : Value} {o : Nat} (h : RepC tt w S g os v (.row o)) : o < g.η.length ∧ (os[o]? ≠ some .dead → g.η[o]? = some v) ∧ v.oneCell' = true := by
  cases h with
  | row _ _ ho h h1 => exact ⟨ho, h, h1⟩

theorem one_rep {v : Value} {x : C} (h : RepC tt w S g os v x) (h1 : x.one = true) : v.oneCell' = true := by
  cases h with
  | undef v => cases h1
  | unw => cases h1
  | d v x h => exact h.one
  | cap0 a => rfl
  | full a T xs n hn h => rfl
  | row v o ho h h2 => exact h2
  | nst => cases h1
  | nsl => cases h1
  | ref o off b h => rfl
  | lp ks ds off b o2 vs hS hf hc hr => rfl
  | rp o i off b p ho h => rfl
  | np => cases h1
  | func f caps vs hl h => rfl
  | nilF => rfl
  | zed v h => exact h
  | agg cs vs hl h => cases h1
  | tuple cs vs hl h => cases h1
  | mp o b h => rfl
theorem one_cells {v : Value} (h : v.oneCell' = true) : v.cells = #[v] := by cases v <;> first | rfl | cases h
theorem cellsC_of_one {x : C} (h : x.one = true) : cellsC x = [x] := by cases x <;> first | rfl | cases h
theorem cells_rep {v : Value} {x : C} (h : RepC tt w S g os v x) (h1 : (cellsC x).all C.one = true) :
    v.cells.size = (cellsC x).length ∧ ∀ i, i < (cellsC x).length → RepC tt w S g os (v.cells.getD i Go.undef) ((cellsC x).getD i .undef) ∧ (v.cells.getD i Go.undef).oneCell' = true := by
  have base : x.one = true → v.cells.size = (cellsC x).length ∧ ∀ i, i < (cellsC x).length → RepC tt w S g os (v.cells.getD i Go.undef) ((cellsC x).getD i .undef) ∧ (v.cells.getD i Go.undef).oneCell' = true := by
    intro hx
    have ho := one_rep h hx
    rw [one_cells ho, cellsC_of_one hx]
    refine ⟨rfl, fun i hi => ?_⟩
    have : i = 0 := by simpa using hi
    subst this
    exact ⟨h, ho⟩
  cases x with
  | agg cs =>
    cases h with
    | agg _ vs hl hr =>
      refine ⟨hl, fun i hi => ⟨hr i hi, one_rep (hr i hi) ?_⟩⟩
      simp only [cellsC, List.all_eq_true] at h1
      have hi' : i < cs.length := hi
      exact h1 _ (by simp [List.getD_eq_getElem?_getD, hi'])
  | undef => simp [cellsC, C.one] at h1
  | unw => simp [cellsC, C.one] at h1
  | tuple cs => simp [cellsC, C.one] at h1
  | nst => simp [cellsC, C.one] at h1
  | nsl => simp [cellsC, C.one] at h1
  | np => simp [cellsC, C.one] at h1
  | _ => exact base rfl

/-- What `toD` gives. -/
theorem toD_sound {nt : Nat} {a : Act} {s : St} (hs : RepSt tt c w g nt a s) {k : CK} {x : C} {v : Value} {d : D} {os' : List Ob} (h : toD k x s.objs = some (d, os')) (hx : RepC tt w (Now c w g s.objs.length) g s.objs v x) :
    ∃ g', RepSt tt c w g' nt a ⟨s.tmps, os'⟩ ∧ Stp c w g s.objs w g' os' ∧ Rep tt w (Now c w g' os'.length) v d ∧ k.fits d := by
  have same : ∀ {d : D}, Rep tt w (Now c w g s.objs.length) v d → k.fits d → some (d, s.objs) = some (d, os') → ∃ g', RepSt tt c w g' nt a ⟨s.tmps, os'⟩ ∧ Stp c w g s.objs w g' os' ∧ Rep tt w (Now c w g' os'.length) v d ∧ k.fits d := by
    intro d hr hf he
    simp only [Option.some.injEq, Prod.mk.injEq, true_and] at he
    subst he
    exact ⟨g, hs, .refl _ _ _ _, hr, hf⟩
  unfold toD at h
  split at h
  · rename_i b
    cases h
    exact same hx.d_inv ⟨b, rfl⟩ rfl
  · rename_i j i n
    cases hk : ikBeq i j with
    | false => simp [hk] at h
    | true =>
      have := ikBeq_eq hk
      subst this
      simp only [hk, cond_true, Option.some.injEq, Prod.mk.injEq] at h
      obtain ⟨rfl, rfl⟩ := h
      exact same hx.d_inv ⟨n, rfl⟩ rfl
  · rename_i l
    cases h
    exact same hx.d_inv ⟨l, rfl⟩ rfl
  · rename_i e T xs
    cases hk : Nat.beq T e with
    | false => simp [hk] at h
    | true =>
      have := Nat.eq_of_beq_eq_true hk
      subst this
      simp only [hk, cond_true, Option.some.injEq, Prod.mk.injEq] at h
      obtain ⟨rfl, rfl⟩ := h
      exact same hx.d_inv ⟨xs, rfl⟩ rfl
  · rename_i e T xs
    cases hk : Nat.beq T e with
    | false => simp [hk] at h
    | true =>
      have := Nat.eq_of_beq_eq_true hk
      subst this
      simp only [hk, cond_true, Option.some.injEq, Prod.mk.injEq] at h
      obtain ⟨rfl, rfl⟩ := h
      refine same ?_ ⟨xs, rfl⟩ rfl
      cases hx with
      | full a _ _ n hn h => exact h
  · cases h
    refine same ?_ ⟨[], rfl⟩ rfl
    cases hx with
    | cap0 a => exact .nil _ _ _
  · rename_i e o
    obtain ⟨hol, hrow, h1⟩ := hx.row_inv
    split at h
    · rename_i T md ver xs ho
      cases hk : Nat.beq T e with
      | false => simp [hk] at h
      | true =>
        have := Nat.eq_of_beq_eq_true hk
        subst this
        simp only [hk, cond_true, Option.some.injEq, Prod.mk.injEq] at h
        obtain ⟨rfl, rfl⟩ := h
        have ho' := getD_some ho (by simp)
        have hv := hrow (by rw [ho']; simp)
        obtain ⟨h2, h3, h4⟩ := frz_step hs ho'
        exact ⟨_, h2, h3.stp hs.inv, h4 v hv, ⟨xs, rfl⟩⟩
    · rename_i T xs ho
      cases hk : Nat.beq T e with
      | false => simp [hk] at h
      | true =>
        have := Nat.eq_of_beq_eq_true hk
        subst this
        simp only [hk, cond_true, Option.some.injEq, Prod.mk.injEq] at h
        obtain ⟨rfl, rfl⟩ := h
        have ho' := getD_some ho (by simp)
        have hv := hrow (by rw [ho']; simp)
        exact same (hs.inv.ob o _ v ho' hv) ⟨xs, rfl⟩ rfl
    · cases h
  · cases h
    exact same hx.d_inv (.inl rfl) rfl
  · rename_i b
    cases h
    exact same hx.d_inv (.inr (.inr (.inr ⟨b, rfl⟩))) rfl
  · rename_i t x
    cases h
    exact same hx.d_inv (.inr (.inl ⟨t, x, rfl⟩)) rfl
  · rename_i t x
    cases h
    exact same hx.d_inv (.inr (.inr (.inl ⟨t, x, rfl⟩))) rfl
  · cases h

theorem toDs_sound {nt : Nat} {a : Act} : ∀ {ks : List CK} {xs : List C} {g : Gh} {s : St} {vs : List Value} {ds : List D} {os' : List Ob}, RepSt tt c w g nt a s → toDs ks xs s.objs = some (ds, os') → vs.length = xs.length →
    (∀ i, i < xs.length → RepC tt w (Now c w g s.objs.length) g s.objs (vs.getD i Go.undef) (xs.getD i .undef)) →
    ∃ g', RepSt tt c w g' nt a ⟨s.tmps, os'⟩ ∧ Stp c w g s.objs w g' os' ∧ ds.length = ks.length ∧ xs.length = ks.length ∧ (∀ i, i < ks.length → Rep tt w (Now c w g' os'.length) (vs.getD i Go.undef) (ds.getD i .z)) ∧ fitsAll ks ds
  | [], [], g, s, vs, ds, os', hs, h, hl, hr => by
    simp only [toDs, Option.some.injEq, Prod.mk.injEq] at h
    obtain ⟨rfl, rfl⟩ := h
    exact ⟨g, hs, .refl _ _ _ _, rfl, rfl, fun i hi => by simp at hi, trivial⟩
  | [], _ :: _, g, s, vs, ds, os', hs, h, hl, hr => by cases h
  | _ :: _, [], g, s, vs, ds, os', hs, h, hl, hr => by cases h
  | k :: ks, x :: xs, g, s, vs, ds, os', hs, h, hl, hr => by
    simp only [toDs] at h
    split at h
    · rename_i d os1 hd
      split at h
      · rename_i ds2 os2 hds
        simp only [Option.some.injEq, Prod.mk.injEq] at h
        obtain ⟨rfl, rfl⟩ := h
        match vs, hl with
        | v :: vs, hl =>
        obtain ⟨g1, hs1, st1, hrep, hfit⟩ := toD_sound hs hd (by simpa using hr 0 (by simp))
        obtain ⟨g2, hs2, st2, hl2, hl3, hrep2, hfit2⟩ := toDs_sound (s := ⟨s.tmps, os1⟩) (vs := vs) hs1 hds (by simpa using hl) (fun i hi => st1.rep (by simpa using hr (i + 1) (by simpa using hi)))
        refine ⟨g2, hs2, st1.trans st2, by simp [hl2], by simp [hl3], fun i hi => ?_, ⟨hfit, hfit2⟩⟩
        cases i with
        | zero => simpa using st2.repD hrep
        | succ i => simpa using hrep2 i (by simpa using hi)
      · cases h
    · cases h

/-! ### Taken into a row -/
/-- The blocks of what was given up. -/
def Dead (g : Gh) (os os' : List Ob) (b : Nat) : Prop := ∃ m, (∃ ob, os[m]? = some ob ∧ ob ≠ .dead) ∧ os'[m]? = some .dead ∧ g.φ m b
theorem RepW.flat {md md' : Md} {v : Value} {T : TypeId} {xs : List (List D)} {φ : Nat → Prop} (h : RepW tt w S md.up v (.list T xs) φ) (hf : flatT tt T = true) : RepW tt w S md'.up v (.list T xs) φ := by
  obtain ⟨a, cap, rfl, hb, hle, hc⟩ := h.list_inv (isZ_up md)
  rcases Nat.eq_zero_or_pos cap with h0 | h0
  · subst h0
    have : xs = [] := List.eq_nil_of_length_eq_zero (by omega)
    subst this
    exact .zero _ _ _ _
  · obtain ⟨ti, ht, hd, hk, hfit, b, vs, φs, rfl, hh, hsz, hφ, hφs, hdj, hr⟩ := hc h0
    refine .list md' T ti xs cap b φ vs φs ht hd hk hle h0 hb hfit hh hsz hφ hφs hdj fun i j hi hj => ?_
    have hw := hr i j hi hj
    have hkj : ti.cells[j]? = some ti.cells[j] := List.getElem?_eq_getElem hj
    have hfl : (ti.cells[j]).isL = false := by
      unfold flatT at hf
      rw [ht] at hf
      have : ∀ (l : List CK), flatKs l = true → ∀ k ∈ l, k.isL = false := by
        intro l
        induction l with
        | nil => intro _ k hk; cases hk
        | cons k l ih =>
          intro hf k' hk'
          simp only [flatKs, Bool.and_eq_true, Bool.not_eq_true'] at hf
          rcases List.mem_cons.1 hk' with rfl | hk'
          · exact hf.1
          · exact ih hf.2 k' hk'
      exact this _ hf _ (List.getElem_mem hj)
    have hdl := CK.fits_isL (fitsAll_at (hfit i hi) j _ hkj)
    rw [hfl] at hdl
    generalize vs.getD (i * ti.cells.length + j) Go.undef = u at hw ⊢
    generalize (xs.getD i []).getD j .z = d at hw hdl ⊢
    generalize md.up.down = m2 at hw
    cases hw with
    | froz _ _ _ h => exact .sc _ _ _ _ h hdl
    | sc _ _ _ _ h _ => exact .sc _ _ _ _ h hdl
    | zero => cases hdl
    | list => cases hdl

theorem Inv.handle (hI : Inv tt c w g os) {o : Nat} {T : TypeId} {md : Md} {ver : Nat} {xs : List (List D)} {v : Value} (ho : os[o]? = some (.row T md ver xs)) (hx : RepC tt w (Now c w g os.length) g os v (.row o)) :
    g.η[o]? = some v ∧ RowX tt w (Now c w g os.length) (fun _ _ => False) md v T xs (g.φ o) (g.ν o) := by
  obtain ⟨_, hrow, _⟩ := hx.row_inv
  have hv := hrow (by rw [ho]; simp)
  exact ⟨hv, hI.ob o _ v ho hv⟩

theorem toD_len {k : CK} {x : C} {os os1 : List Ob} {d : D} (h : toD k x os = some (d, os1)) : os1.length = os.length := by
  unfold toD at h
  split at h <;> first | (cases h; done) | skip
  all_goals first
    | (simp only [Option.some.injEq, Prod.mk.injEq] at h; rw [← h.2]; done)
    | skip
  · rename_i j i n; cases hk : ikBeq i j <;> simp [hk] at h; rw [← h.2]
  · rename_i e T xs; cases hk : Nat.beq T e <;> simp [hk] at h; rw [← h.2]
  · rename_i e T xs; cases hk : Nat.beq T e <;> simp [hk] at h; rw [← h.2]
  · rename_i e o
    split at h
    · rename_i T _ _ ys _; cases hk : Nat.beq T e <;> simp [hk] at h; rw [← h.2]; simp
    · rename_i T ys _; cases hk : Nat.beq T e <;> simp [hk] at h; rw [← h.2]
    · cases h
theorem absorb_len {md : Md} {k : CK} {x : C} {os os1 : List Ob} {d : D} (h : absorb tt md k x os = some (d, os1)) : os1.length = os.length := by
  unfold absorb at h
  cases hz : md.isZ with
  | true => simp only [hz, cond_true] at h; exact toD_len h
  | false =>
    simp only [hz, cond_false] at h
    split at h
    · rename_i e o
      split at h
      · rename_i T m _ ys _; cases hk : (Nat.beq T e && (Md.beq m.up md || flatT tt T)) <;> simp [hk] at h; rw [← h.2]; simp
      · cases h
    · simp only [Option.some.injEq, Prod.mk.injEq] at h; rw [← h.2]
    · cases h
    · exact toD_len h

theorem toD_alive {k : CK} {x : C} {os os1 : List Ob} {d : D} (h : toD k x os = some (d, os1)) {m : Nat} {ob : Ob} (h4 : os[m]? = some ob) (h5 : ob ≠ Ob.dead) : os1[m]? ≠ some Ob.dead := by
  intro h6
  have same : os1 ≠ os := fun e => by rw [e, h4] at h6; cases h6; exact h5 rfl
  unfold toD at h
  split at h <;> first | (cases h; done) | skip
  all_goals first
    | (simp only [Option.some.injEq, Prod.mk.injEq] at h; exact same h.2.symm)
    | skip
  · rename_i j i n; cases hk : ikBeq i j <;> simp [hk] at h; exact same h.2.symm
  · rename_i e T xs; cases hk : Nat.beq T e <;> simp [hk] at h; exact same h.2.symm
  · rename_i e T xs; cases hk : Nat.beq T e <;> simp [hk] at h; exact same h.2.symm
  · rename_i e o
    split at h
    · rename_i T _ _ ys _
      cases hk : Nat.beq T e <;> simp [hk] at h
      rw [← h.2] at h6
      by_cases hmo : m = o
      · subst hmo
        rw [List.getElem?_set_self (ob_lt h4)] at h6
        cases h6
      · rw [List.getElem?_set_ne (Ne.symm hmo), h4] at h6
        cases h6; exact h5 rfl
    · rename_i T ys _; cases hk : Nat.beq T e <;> simp [hk] at h; exact same h.2.symm
    · cases h
theorem absorb_sound {nt : Nat} {a : Act} {s : St} (hs : RepSt tt c w g nt a s) {md : Md} {k : CK} {x : C} {v : Value} {d : D} {os' : List Ob} (h : absorb tt md k x s.objs = some (d, os')) (hx : RepC tt w (Now c w g s.objs.length) g s.objs v x) :
    ∃ g' φ', RepSt tt c w g' nt a ⟨s.tmps, os'⟩ ∧ Stp c w g s.objs w g' os' ∧ RepW tt w (Now c w g' os'.length) md v d φ' ∧ k.fits d ∧ (∀ b, φ' b → Dead g' s.objs os' b) ∧
      (∀ m : Nat, s.objs[m]? = some Ob.dead → os'[m]? = some Ob.dead) ∧ (md.isZ = false → g' = g) := by
  unfold absorb at h
  cases hz : md.isZ with
  | true =>
    simp only [hz, cond_true] at h
    obtain ⟨g', h1, h2, h3, h4⟩ := toD_sound hs h hx
    refine ⟨g', fun _ => False, h1, h2, ?_, h4, fun b hb => hb.elim, fun m hm => ?_, fun h => by cases h⟩
    · rw [isZ_lv hz]; exact .froz _ _ _ h3
    · exact h2.later.dead m (by have := ob_lt hm; have := hs.inv.len; omega) hm
  | false =>
    simp only [hz, cond_false] at h
    split at h
    · rename_i e o
      split at h
      · rename_i T m ver xs ho
        have ho' := getD_some ho (by simp)
        cases hk : (Nat.beq T e && (Md.beq m.up md || flatT tt T)) with
        | false => simp [hk] at h
        | true =>
          simp only [hk, cond_true, Option.some.injEq, Prod.mk.injEq] at h
          obtain ⟨rfl, rfl⟩ := h
          simp only [Bool.and_eq_true, Bool.or_eq_true] at hk
          have hT := Nat.eq_of_beq_eq_true hk.1
          subst hT
          obtain ⟨hv, hX⟩ := hs.inv.handle ho' hx
          have hol := ob_lt ho'
          have hc := Chg.die hs.inv ho'
          have hw := hX.repW
          have hw2 : RepW tt w (Now c w g s.objs.length) md v (.list T xs) (g.φ o) := by
            rcases hk.2 with h | h
            · rw [← Md.beq_eq h]; exact hw
            · rw [← up_down hz]
              exact hw.flat h
          refine ⟨g, g.φ o, hs.die ho', hc.stp hs.inv, hw2.mono (fun b hb => ⟨(hc.now hs.inv b hb).1, rfl⟩) (fun b hb => ⟨hb, rfl⟩), ⟨xs, rfl⟩, fun b hb => ⟨o, ⟨_, ho', by simp⟩, List.getElem?_set_self hol, hb⟩, fun m' hm => ?_, fun _ => rfl⟩
          by_cases h : m' = o
          · subst h; exact List.getElem?_set_self hol
          · rw [List.getElem?_set_ne (Ne.symm h)]; exact hm
      · cases h
    · simp only [Option.some.injEq, Prod.mk.injEq] at h
      obtain ⟨rfl, rfl⟩ := h
      cases hx with
      | cap0 a => exact ⟨g, fun _ => False, hs, .refl _ _ _ _, .zero _ _ _ _, ⟨[], rfl⟩, fun b hb => hb.elim, fun m hm => hm, fun _ => rfl⟩
    · cases h
    · rename_i hn1 hn2 hn3
      have hnl : k.isL = false := by
        cases k with
        | list e => first | exact absurd rfl (hn3 e) | exact absurd rfl (hn2 e) | exact absurd rfl (hn1 e)
        | _ => rfl
      have hg : os' = s.objs := by
        unfold toD at h
        split at h <;> first | (cases h; done) | (cases hnl; done) | (simp only [Option.some.injEq, Prod.mk.injEq] at h; exact h.2.symm) | skip
        rename_i j i n
        cases hk : ikBeq i j with
        | false => simp [hk] at h
        | true => simp only [hk, cond_true, Option.some.injEq, Prod.mk.injEq] at h; exact h.2.symm
      have hrd : Rep tt w (Now c w g s.objs.length) v d ∧ k.fits d := by
        unfold toD at h
        split at h <;> first | (cases h; done) | (cases hnl; done) | skip
        · rename_i b; cases h; exact ⟨hx.d_inv, ⟨b, rfl⟩⟩
        · rename_i j i n
          cases hk : ikBeq i j with
          | false => simp [hk] at h
          | true =>
            have := ikBeq_eq hk
            subst this
            simp only [hk, cond_true, Option.some.injEq, Prod.mk.injEq] at h
            obtain ⟨rfl, rfl⟩ := h
            exact ⟨hx.d_inv, ⟨n, rfl⟩⟩
        · rename_i l; cases h; exact ⟨hx.d_inv, ⟨l, rfl⟩⟩
        · cases h; exact ⟨hx.d_inv, .inl rfl⟩
        · rename_i b; cases h; exact ⟨hx.d_inv, .inr (.inr (.inr ⟨b, rfl⟩))⟩
        · rename_i t x; cases h; exact ⟨hx.d_inv, .inr (.inl ⟨t, x, rfl⟩)⟩
        · rename_i t x; cases h; exact ⟨hx.d_inv, .inr (.inr (.inl ⟨t, x, rfl⟩))⟩
      subst hg
      have hdl := CK.fits_isL hrd.2
      rw [hnl] at hdl
      exact ⟨g, fun _ => False, hs, .refl _ _ _ _, .sc _ _ _ _ hrd.1 hdl, hrd.2, fun b hb => hb.elim, fun m hm => hm, fun _ => rfl⟩

/-- What `absorbs` gives: cells with their blocks. -/
structure Absd (tt : TypeId → Option TI) (c : Ctx) (w : World) (md : Md) (g' : Gh) (os os' : List Ob) (ks : List CK) (vs : List Value) (ds : List D) (ψ : Nat → Nat → Prop) : Prop where
  fit : fitsAll ks ds
  rep : ∀ i, i < ks.length → RepW tt w (Now c w g' os'.length) md (vs.getD i Go.undef) (ds.getD i .z) (ψ i)
  dead : ∀ i b, i < ks.length → ψ i b → Dead g' os os' b
  dj : ∀ i i' b, i < ks.length → i' < ks.length → ψ i b → ψ i' b → i = i'
theorem absorbs_sound {nt : Nat} {a : Act} {md : Md} : ∀ {ks : List CK} {xs : List C} {g : Gh} {s : St} {vs : List Value} {ds : List D} {os' : List Ob}, RepSt tt c w g nt a s → absorbs tt md ks xs s.objs = some (ds, os') → vs.length = xs.length →
    (∀ i, i < xs.length → RepC tt w (Now c w g s.objs.length) g s.objs (vs.getD i Go.undef) (xs.getD i .undef)) →
    ∃ g' ψ, RepSt tt c w g' nt a ⟨s.tmps, os'⟩ ∧ Stp c w g s.objs w g' os' ∧ ds.length = ks.length ∧ xs.length = ks.length ∧ Absd tt c w md g' s.objs os' ks vs ds ψ ∧ (∀ m : Nat, s.objs[m]? = some Ob.dead → os'[m]? = some Ob.dead) ∧ (md.isZ = false → g' = g)
  | [], [], g, s, vs, ds, os', hs, h, hl, hr => by
    simp only [absorbs, Option.some.injEq, Prod.mk.injEq] at h
    obtain ⟨rfl, rfl⟩ := h
    exact ⟨g, fun _ _ => False, hs, .refl _ _ _ _, rfl, rfl, ⟨trivial, fun i hi => by simp at hi, fun i b hi => by simp at hi, fun i i' b hi => by simp at hi⟩, fun _ h => h, fun _ => rfl⟩
  | [], _ :: _, g, s, vs, ds, os', hs, h, hl, hr => by cases h
  | _ :: _, [], g, s, vs, ds, os', hs, h, hl, hr => by cases h
  | k :: ks, x :: xs, g, s, vs, ds, os', hs, h, hl, hr => by
    simp only [absorbs] at h
    split at h
    · rename_i d os1 hd
      split at h
      · rename_i ds2 os2 hds
        simp only [Option.some.injEq, Prod.mk.injEq] at h
        obtain ⟨rfl, rfl⟩ := h
        match vs, hl with
        | v :: vs, hl =>
        obtain ⟨g1, φ1, hs1, st1, hrep, hfit, hdd, hkeep, hge⟩ := absorb_sound hs hd (by simpa using hr 0 (by simp))
        obtain ⟨g2, ψ2, hs2, st2, hl2, hl3, hab, hkeep2, hge2⟩ := absorbs_sound (s := ⟨s.tmps, os1⟩) (vs := vs) hs1 hds (by simpa using hl) (fun i hi => st1.rep (by simpa using hr (i + 1) (by simpa using hi)))
        have len1 : ∀ {m : Nat} {ob : Ob}, os1[m]? = some ob → m < g1.η.length := fun h => by have := ob_lt h; have := hs1.inv.len; simp at this; omega
        -- when rows are taken over nothing of the ghosts changes
        have hφ1 : ∀ b, φ1 b → g2 = g1 ∧ ∃ m, (∃ ob, s.objs[m]? = some ob ∧ ob ≠ .dead) ∧ os1[m]? = some .dead ∧ g1.φ m b := by
          intro b hb
          obtain ⟨m, h1, h2, h3⟩ := hdd b hb
          refine ⟨hge2 ?_, m, h1, h2, h3⟩
          cases hz : md.isZ with
          | false => rfl
          | true =>
            exfalso
            -- at the lowest level nothing is taken over
            have hd' := hd
            unfold absorb at hd'
            simp only [hz, cond_true] at hd'
            obtain ⟨ob, h4, h5⟩ := h1
            exact toD_alive hd' h4 h5 h2
        refine ⟨g2, fun i => match i with | 0 => φ1 | i + 1 => ψ2 i, hs2, st1.trans st2, by simp [hl2], by simp [hl3], ⟨⟨hfit, hab.fit⟩, fun i hi => ?_, fun i b hi hb => ?_, fun i i' b hi hi' hb hb' => ?_⟩, fun m hm => hkeep2 m (hkeep m hm), fun hz => (hge2 hz).trans (hge hz)⟩
        · cases i with
          | zero => simpa using hrep.mono st2.now (fun b hb => ⟨hb, rfl⟩)
          | succ i => simpa using hab.rep i (by simpa using hi)
        · cases i with
          | zero =>
            obtain ⟨he, m, h1, h2, h3⟩ := hφ1 b hb
            exact ⟨m, h1, hkeep2 m h2, by rw [he]; exact h3⟩
          | succ i =>
            obtain ⟨m, ⟨ob, h1, h1'⟩, h2, h3⟩ := hab.dead i b (by simpa using hi) hb
            refine ⟨m, ?_, h2, h3⟩
            have hm : m < s.objs.length := by
              have := ob_lt h1
              have e1 : os1.length = s.objs.length := by
                exact absorb_len hd
              simp only at this
              omega
            refine ⟨s.objs[m], by simp [hm], fun hdd => ?_⟩
            have : os1[m]? = some .dead := hkeep m (by rw [List.getElem?_eq_getElem hm, hdd])
            rw [h1] at this
            cases this
            exact h1' rfl
        · cases i with
          | zero =>
            cases i' with
            | zero => rfl
            | succ i' =>
              exfalso
              obtain ⟨he, m, _, h2, h3⟩ := hφ1 b hb
              obtain ⟨m', ⟨ob, h4, h5⟩, h6, h7⟩ := hab.dead i' b (by simpa using hi') hb'
              rw [← he] at h3
              have h8 := hkeep2 m h2
              have := hs2.inv.dj m m' b (ob_lt h8) (ob_lt h6) h3 h7
              subst this
              rw [h2] at h4
              cases h4
              exact h5 rfl
          | succ i =>
            cases i' with
            | zero =>
              exfalso
              obtain ⟨he, m, _, h2, h3⟩ := hφ1 b hb'
              obtain ⟨m', ⟨ob, h4, h5⟩, h6, h7⟩ := hab.dead i b (by simpa using hi) hb
              rw [← he] at h3
              have h8 := hkeep2 m h2
              have := hs2.inv.dj m m' b (ob_lt h8) (ob_lt h6) h3 h7
              subst this
              rw [h2] at h4
              cases h4
              exact h5 rfl
            | succ i' =>
              have := hab.dj i i' b (by simpa using hi) (by simpa using hi') hb hb'
              rw [this]
      · cases h
    · cases h

end Go.Proofs.EN
