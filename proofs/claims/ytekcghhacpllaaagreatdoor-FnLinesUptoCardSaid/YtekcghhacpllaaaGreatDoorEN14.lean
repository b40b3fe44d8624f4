/- Contracts of functions of this program, by the evaluator EN. No conditions but those that each theorem states. -/
import Derived.Test.YtekcghhacpllaaaGreatDoorEN13
/- append. -/
namespace Go.Proofs.EN
open Go
set_option linter.unusedVariables false
set_option linter.unusedSimpArgs false
variable {tt : TypeId → Option TI} {P : Program} {c : Ctx} {w : World} {g : Gh} {os : List Ob} {S : Nat → Prop}

def noB : Nat → Nat → Nat → Prop := fun _ _ _ => False
/-- Elements without lists. -/
theorem Laid.flat {B S' : Nat → Prop} {e : TypeId} {ti : TI} {xs : List (List D)} {a : Option Addr} (md : Md) (hte : tt e = some ti) (hf : flatKs ti.cells = true) (h : 0 < xs.length → Laid tt w S B e xs a) : Part tt w S' md ti.cells.length xs a noB := by
  intro h0
  obtain ⟨ti2, ht2, hd, hk, hfit, b, off, rfl, _, _, vs, hc, hr⟩ := h h0
  rw [hte] at ht2; cases ht2
  refine ⟨b, off, vs, rfl, hc, fun i j hi hj => ?_⟩
  have hkj : ti.cells[j]? = some ti.cells[j] := List.getElem?_eq_getElem hj
  have hl : ((xs.getD i []).getD j .z).isL = false := by rw [CK.fits_isL (fitsAll_at (hfit i hi) j _ hkj)]; exact flatKs_at hf hkj
  exact .sc _ _ _ _ (sc_any hl (hr i j hi hj)) hl
theorem Laid.froz {B : Nat → Prop} {e : TypeId} {ti : TI} {xs : List (List D)} {a : Option Addr} (hte : tt e = some ti) (h : 0 < xs.length → Laid tt w S B e xs a) : Part tt w S (.lv 0) ti.cells.length xs a noB := by
  intro h0
  obtain ⟨ti2, ht2, hd, hk, hfit, b, off, rfl, _, _, vs, hc, hr⟩ := h h0
  rw [hte] at ht2; cases ht2
  exact ⟨b, off, vs, rfl, hc, fun i j hi hj => .froz _ _ _ (hr i j hi hj)⟩
theorem Laid.fits {B : Nat → Prop} {e : TypeId} {ti : TI} {xs : List (List D)} {a : Option Addr} (hte : tt e = some ti) (h : 0 < xs.length → Laid tt w S B e xs a) : ∀ i, i < xs.length → fitsAll ti.cells (xs.getD i []) := by
  intro i hi
  obtain ⟨ti2, ht2, hd, hk, hfit, _⟩ := h (by omega)
  rw [hte] at ht2; cases ht2
  exact hfit i hi
theorem Part.mono {S' : Nat → Prop} {w' : World} {md : Md} {k : Nat} {xs : List (List D)} {a : Option Addr} {φs : Nat → Nat → Nat → Prop} (h : Part tt w S md k xs a φs) (hw : w' = w) (hS : ∀ b, S b → S' b) : Part tt w' S' md k xs a φs := by
  subst hw
  intro h0
  obtain ⟨b, off, vs, h1, h2, h3⟩ := h h0
  exact ⟨b, off, vs, h1, h2, fun i j hi hj => (h3 i j hi hj).mono (fun b hb => ⟨hS b hb, rfl⟩) fun b hb => ⟨hb, rfl⟩⟩
/-- Of a row of one's own: its cells, and its block. -/
theorem RowX.part {md : Md} {a : Option Addr} {n cap : Nat} {T : TypeId} {ti : TI} {xs : List (List D)} {φ : Nat → Prop} {ν : Nat → Nat → Value} (h : RowX tt w S (fun _ _ => False) md (.slice a n cap) T xs φ ν) (ht : tt T = some ti) :
    n = xs.length ∧ xs.length ≤ cap ∧ ∃ φs : Nat → Nat → Nat → Prop, Part tt w S md ti.cells.length xs a φs ∧ (∀ i j t, i < xs.length → j < ti.cells.length → φs i j t → φ t) ∧
      (∀ i j i' j' t, i < xs.length → j < ti.cells.length → i' < xs.length → j' < ti.cells.length → φs i j t → φs i' j' t → i = i' ∧ j = j') ∧
      (0 < cap → ∃ b cur, a = some ⟨b, 0, none⟩ ∧ w.heap[b]? = some (.cells cur T (0, 0)) ∧ cur.size = cap * ti.cells.length ∧ φ b ∧ ∀ i j t, i < xs.length → j < ti.cells.length → φs i j t → t ≠ b) := by
  obtain ⟨a0, cap0, ti2, hv, ht2, hd, hk, hfit, hle, hbg, hc⟩ := h
  rw [ht] at ht2; cases ht2
  simp only [Value.slice.injEq] at hv
  obtain ⟨rfl, rfl, rfl⟩ := hv
  refine ⟨rfl, hle, ?_⟩
  rcases Nat.eq_zero_or_pos cap with h0 | h0
  · exact ⟨noB, fun h => by omega, fun i j t hi => by omega, fun i j i' j' t hi => by omega, fun h => by omega⟩
  · obtain ⟨b, vs, φs, rfl, hh, hsz, hφ, hφs, hdj, hr, _⟩ := hc h0
    refine ⟨φs, fun _ => ⟨b, 0, fun i j => vs.getD (i * ti.cells.length + j) Go.undef, rfl, fun i j hi hj => ?_, fun i j hi hj => hr i j hi hj (fun h => h)⟩, fun i j t hi hj h => (hφs i j t hi hj (fun h => h) h).1, fun i j i' j' t hi hj hi' hj' => hdj i j i' j' t hi hj hi' hj' (fun h => h) (fun h => h), fun _ => ⟨b, vs, rfl, hh, hsz, hφ, fun i j t hi hj h => (hφs i j t hi hj (fun h => h) h).2⟩⟩
    have hlt : i * ti.cells.length + j < vs.size := by rw [hsz]; exact idx_lt (by omega) hj
    rw [Nat.zero_add, cell_of_row w b _ vs T (0, 0) hh]
    simp [Array.getD, hlt]

theorem elems_row {e : TypeId} {o : Nat} {xs : List (List D)} (h : elems e (.row o) os = some xs) : (∃ md ver, os[o]? = some (.row e md ver xs)) ∨ os[o]? = some (.frz e xs) := by
  unfold elems at h
  simp only at h
  split at h
  · rename_i T md ver ys ho
    cases hq : Nat.beq T e with
    | false => simp [hq] at h
    | true =>
      have := Nat.eq_of_beq_eq_true hq
      subst this
      simp only [hq, cond_true, Option.some.injEq] at h
      subst h
      exact .inl ⟨md, ver, getD_some ho (by simp)⟩
  · rename_i T ys ho
    cases hq : Nat.beq T e with
    | false => simp [hq] at h
    | true =>
      have := Nat.eq_of_beq_eq_true hq
      subst this
      simp only [hq, cond_true, Option.some.injEq] at h
      subst h
      exact .inr (getD_some ho (by simp))
  · cases h
theorem elems_nst {e e' : TypeId} {o ver i off : Nat} {xs : List (List D)} (h : elems e (.nst e' o ver i off) os = some xs) : e' = e ∧ ((∃ T0 md xs0, os[o]? = some (.row T0 md ver xs0) ∧ md.isZ = false ∧ xs = nstF xs0 i off) ∨ ∃ K V md es, os[o]? = some (.map K V md ver es) ∧ md.isZ = false ∧ off = 0 ∧ xs = mapF es i) := by
  unfold elems at h
  simp only at h
  split at h
  · rename_i T0 md ver' xs0 ho
    cases hb : (Nat.beq e' e && (Nat.beq ver ver' && !md.isZ)) with
    | false => simp [hb] at h
    | true =>
      simp only [hb, cond_true, Option.some.injEq] at h
      simp only [Bool.and_eq_true, Bool.not_eq_true'] at hb
      obtain ⟨q1, q2, q3⟩ := hb
      have q2 := Nat.eq_of_beq_eq_true q2
      subst q2
      exact ⟨Nat.eq_of_beq_eq_true q1, .inl ⟨T0, md, xs0, getD_some ho (by simp), q3, h.symm⟩⟩
  · rename_i K V md ver' es ho
    cases hb : (Nat.beq e' e && (Nat.beq ver ver' && (!md.isZ && Nat.beq off 0))) with
    | false => simp [hb] at h
    | true =>
      simp only [hb, cond_true, Option.some.injEq] at h
      simp only [Bool.and_eq_true, Bool.not_eq_true'] at hb
      obtain ⟨q1, q2, q3, q4⟩ := hb
      have q2 := Nat.eq_of_beq_eq_true q2
      subst q2
      exact ⟨Nat.eq_of_beq_eq_true q1, .inr ⟨K, V, md, es, getD_some ho (by simp), q3, Nat.eq_of_beq_eq_true q4, h.symm⟩⟩
  · cases h
theorem elems_nsl {e e' : TypeId} {o ver i off lo n : Nat} {xs : List (List D)} (h : elems e (.nsl e' o ver i off lo n) os = some xs) : e' = e ∧ ∃ T0 md xs0, os[o]? = some (.row T0 md ver xs0) ∧ md.isZ = false ∧ xs = nstL xs0 i off lo n := by
  unfold elems at h
  simp only at h
  split at h
  · rename_i T0 md ver' xs0 ho
    cases hb : (Nat.beq e' e && (Nat.beq ver ver' && !md.isZ)) with
    | false => simp [hb] at h
    | true =>
      simp only [hb, cond_true, Option.some.injEq] at h
      simp only [Bool.and_eq_true, Bool.not_eq_true'] at hb
      obtain ⟨q1, q2, q3⟩ := hb
      have q2 := Nat.eq_of_beq_eq_true q2
      subst q2
      exact ⟨Nat.eq_of_beq_eq_true q1, T0, md, xs0, getD_some ho (by simp), q3, h.symm⟩
  · cases h

/-- What is appended, taken over; the state behind it. -/
theorem src_sound {nt : Nat} {a : Act} {s : St} (hs : RepSt tt c w g nt a s) {e : TypeId} {ti : TI} (hte : tt e = some ti) {y : C} {ys : List (List D)} {vy : Value} {md my : Md} {os1 : List Ob} (hys : elems e y s.objs = some ys) (hy : RepC tt w (Now c w g s.objs.length) g s.objs vy y)
    (hn : flatKs ti.cells = true ∨ isNst y = false) (h : srcMd (flatKs ti.cells) y s.objs = (my, os1)) (hle : Md.le md my = true) :
    ∃ (g1 : Gh) (Ψ : Nat → Prop) (φy : Nat → Nat → Nat → Prop) (ay : Option Addr) (capy : Nat), vy = .slice ay ys.length capy ∧ RepSt tt c w g1 nt a ⟨s.tmps, os1⟩ ∧ Stp c w g s.objs w g1 os1 ∧ (∀ b, Ψ b → ∃ m : Nat, os1[m]? = some Ob.dead ∧ g1.φ m b ∧ s.objs[m]? ≠ some Ob.dead) ∧ os1.length = s.objs.length ∧
      Part tt w (Now c w g1 os1.length) md ti.cells.length ys ay φy ∧ (∀ i, i < ys.length → fitsAll ti.cells (ys.getD i [])) ∧ (∀ i j t, i < ys.length → j < ti.cells.length → φy i j t → Ψ t) ∧
      (∀ i j i' j' t, i < ys.length → j < ti.cells.length → i' < ys.length → j' < ti.cells.length → φy i j t → φy i' j' t → i = i' ∧ j = j') := by
  obtain ⟨ay, capy, rfl, _, _, hpos⟩ := elems_rep hs.inv hys hy
  have hfit := Laid.fits hte fun h0 => (hpos h0).1
  unfold srcMd at h
  cases hf : flatKs ti.cells with
  | true =>
    simp only [hf, cond_true, Prod.mk.injEq] at h
    obtain ⟨rfl, rfl⟩ := h
    exact ⟨g, fun _ => False, noB, ay, capy, rfl, hs, .refl _ _ _ _, fun b hb => hb.elim, rfl, Laid.flat md hte hf fun h0 => (hpos h0).1, hfit, fun i j t _ _ h => h.elim, fun i j i' j' t _ _ _ _ h => h.elim⟩
  | false =>
    simp only [hf, cond_false] at h
    have hnn : isNst y = false := hn.resolve_left (by rw [hf]; simp)
    have data : y.own = false ∨ (∃ o, y = .row o ∧ s.objs[o]? = some (.frz e ys)) → md = .lv 0 → os1 = s.objs →
        ∃ (g1 : Gh) (Ψ : Nat → Prop) (φy : Nat → Nat → Nat → Prop) (ay1 : Option Addr) (capy1 : Nat), Value.slice ay ys.length capy = .slice ay1 ys.length capy1 ∧ RepSt tt c w g1 nt a ⟨s.tmps, os1⟩ ∧ Stp c w g s.objs w g1 os1 ∧ (∀ b, Ψ b → ∃ m : Nat, os1[m]? = some Ob.dead ∧ g1.φ m b ∧ s.objs[m]? ≠ some Ob.dead) ∧ os1.length = s.objs.length ∧
          Part tt w (Now c w g1 os1.length) md ti.cells.length ys ay1 φy ∧ (∀ i, i < ys.length → fitsAll ti.cells (ys.getD i [])) ∧ (∀ i j t, i < ys.length → j < ti.cells.length → φy i j t → Ψ t) ∧
          (∀ i j i' j' t, i < ys.length → j < ti.cells.length → i' < ys.length → j' < ti.cells.length → φy i j t → φy i' j' t → i = i' ∧ j = j') := by
      intro hdt hmd ho
      subst hmd ho
      refine ⟨g, fun _ => False, noB, ay, capy, rfl, hs, .refl _ _ _ _, fun b hb => hb.elim, rfl, ?_, hfit, fun i j t _ _ h => h.elim, fun i j i' j' t _ _ _ _ h => h.elim⟩
      rcases hdt with hdt | ⟨o, rfl, ho⟩
      · exact Laid.froz hte fun h0 => (hpos h0).2 hdt
      · have hr : Rep tt w (Now c w g s.objs.length) (.slice ay ys.length capy) (.list e ys) := hs.inv.ob o _ _ ho (hy.row_inv.2.1 (by rw [ho]; simp))
        exact Laid.froz hte hr.laid.2.2.2
    have lv0 : ∀ {m : Md}, Md.le m (.lv 0) = true → m = .lv 0 := fun {m} h => by
      cases m with
      | lv n =>
        have h : Nat.ble n 0 = true := h
        have := Nat.le_of_ble_eq_true h
        rw [show n = 0 by omega]
      | deep => cases h
    split at h
    · simp only [Prod.mk.injEq] at h
      obtain ⟨rfl, rfl⟩ := h
      have hy0 : ys = [] := by simpa [elems] using hys.symm
      subst hy0
      exact ⟨g, fun _ => False, noB, ay, capy, rfl, hs, .refl _ _ _ _, fun b hb => hb.elim, rfl, fun h => by simp at h, hfit, fun i j t _ _ h => h.elim, fun i j i' j' t _ _ _ _ h => h.elim⟩
    · rename_i p
      rcases elems_row hys with ⟨mp, ver, hp⟩ | hp
      · rw [some_getD hp] at h
        simp only [Prod.mk.injEq] at h
        obtain ⟨rfl, rfl⟩ := h
        obtain ⟨g1, hs1, st1, e1, e2, e3, e4⟩ := weak_step hs hp hle
        have hrow : (s.objs.set p (.row e md ver ys))[p]? = some (.row e md ver ys) := List.getElem?_set_self (ob_lt hp)
        have hη : g1.η[p]? = some (.slice ay ys.length capy) := by rw [e1]; exact hy.row_inv.2.1 (by rw [hp]; simp)
        have hX := hs1.inv.ob p _ _ hrow hη
        have hs2 := hs1.die hrow
        have hc2 := Chg.die hs1.inv hrow
        simp only [List.set_set] at hs2 hc2
        obtain ⟨_, _, φs, h1, h2, h3, _⟩ := RowX.part hX hte
        have hpl : p < s.objs.length := ob_lt hp
        refine ⟨g1, g1.φ p, φs, ay, capy, rfl, hs2, st1.trans (hc2.stp hs1.inv), fun b hb => ⟨p, List.getElem?_set_self hpl, hb, by rw [hp]; simp⟩, by simp, h1.mono rfl fun b hb => (hc2.now hs1.inv b hb).1, hfit, h2, h3⟩
      · rw [some_getD hp] at h
        simp only [Prod.mk.injEq] at h
        obtain ⟨rfl, rfl⟩ := h
        exact data (.inr ⟨p, rfl, hp⟩) (lv0 hle) rfl
    · rename_i hno1 hno2
      simp only [Prod.mk.injEq] at h
      obtain ⟨rfl, rfl⟩ := h
      refine data (.inl ?_) (lv0 hle) rfl
      cases y <;> first | rfl | (exact absurd rfl (hno2 _)) | cases hnn

theorem flatT_ti {e : TypeId} {ti : TI} (h : tt e = some ti) : flatT tt e = flatKs ti.cells := by unfold flatT; rw [h]

theorem src_keeps {fl : Bool} {y : C} {my : Md} {os1 : List Ob} (h : srcMd fl y os = (my, os1)) {o : Nat} {ob : Ob} (hob : os[o]? = some ob) : os1[o]? = some ob ∨ os1[o]? = some .dead := by
  unfold srcMd at h
  cases hf : fl with
  | true => simp only [hf, cond_true, Prod.mk.injEq] at h; rw [← h.2]; exact .inl hob
  | false =>
    simp only [hf, cond_false] at h
    split at h
    · simp only [Prod.mk.injEq] at h; rw [← h.2]; exact .inl hob
    · rename_i p
      split at h
      · simp only [Prod.mk.injEq] at h
        rw [← h.2]
        by_cases hpo : p = o
        · subst hpo; exact .inr (List.getElem?_set_self (ob_lt hob))
        · rw [List.getElem?_set_ne hpo]; exact .inl hob
      · simp only [Prod.mk.injEq] at h; rw [← h.2]; exact .inl hob
    · simp only [Prod.mk.injEq] at h; rw [← h.2]; exact .inl hob

/-- append to a slice that was just taken out of its cell. -/
theorem append_open (hT : TTok P tt) {T U e : TypeId} {kst : List CK} {byt : Nat} {ti : TI} (hti : tt T = some ⟨.slice e, kst, byt⟩) (hte : tt e = some ti) (hd : dataKs ti.cells = true) (hk : 0 < ti.cells.length) (hb2 : ti.bytes ≤ 1024) {nt : Nat} {a : Act} {ts : List (Nat × C)} {os2 : List Ob} {g2 : Gh} {md : Md} {zs xs ys : List (List D)} {ax ay : Option Addr} {m1 capx capy : Nat} {Ψ : Nat → Prop} {φy : Nat → Nat → Nat → Prop}
    (hs2 : RepSt tt c w g2 nt a ⟨ts, os2 ++ [.row e md 0 zs]⟩) (hη : g2.η[os2.length]? = some (.slice ax m1 capx)) (hbg : xs.length + ys.length ≤ big) (hxz : xs.length ≤ zs.length ∧ ∀ p, p < xs.length → xs.getD p [] = zs.getD p []) (hΨ : ∀ b, Ψ b → ∃ m, os2[m]? = some .dead ∧ g2.φ m b)
    (hY : Part tt w (Now c w g2 (os2 ++ [Ob.row e md 0 zs]).length) md ti.cells.length ys ay φy) (hfx : ∀ i, i < xs.length → fitsAll ti.cells (xs.getD i [])) (hfy : ∀ i, i < ys.length → fitsAll ti.cells (ys.getD i [])) (hφy : ∀ i j t, i < ys.length → j < ti.cells.length → φy i j t → Ψ t)
    (hyy : ∀ i j i' j' t, i < ys.length → j < ti.cells.length → i' < ys.length → j' < ti.cells.length → φy i j t → φy i' j' t → i = i' ∧ j = j') :
    ∃ v w' g', (Builtin.append_ #[T, T] U #[.slice ax xs.length capx, .slice ay ys.length capy]).run P w = .ok v w' ∧ RepSt tt c w' g' nt a ⟨ts, os2 ++ [.dead] ++ [.row e md 0 (xs ++ ys)]⟩ ∧ Stp c w g2 (os2 ++ [.row e md 0 zs]) w' g' (os2 ++ [.dead] ++ [.row e md 0 (xs ++ ys)]) ∧
      RepC tt w' (Now c w' g' (os2 ++ [Ob.dead] ++ [Ob.row e md 0 (xs ++ ys)]).length) g' (os2 ++ [.dead] ++ [.row e md 0 (xs ++ ys)]) v (.row (os2 ++ [Ob.dead]).length) := by
  have hm : (os2 ++ [Ob.row e md 0 zs])[os2.length]? = some (.row e md 0 zs) := by rw [List.getElem?_append_right (by simp)]; simp
  have hXm := hs2.inv.ob os2.length _ _ hm hη
  obtain ⟨q1, q2, φs, p1, p2, p3, hblk⟩ := RowX.part hXm hte
  subst q1
  obtain ⟨hxl, hxg⟩ := hxz
  have hs3 := hs2.die hm
  have hc3 := Chg.die hs2.inv hm
  have hset : (os2 ++ [Ob.row e md 0 zs]).set os2.length .dead = os2 ++ [.dead] := by
    rw [List.set_append_right _ _ (by simp)]; simp
  have hlen2 : (os2 ++ [Ob.row e md 0 zs]).length = os2.length + 1 := by simp
  have hxy : ∀ b, Ψ b → g2.φ os2.length b → False := fun b h1 h2 => by
    obtain ⟨m, q1, q2⟩ := hΨ b h1
    have h4 := ob_lt q1
    have := hs2.inv.dj m os2.length b (by simp only [hlen2]; omega) (by simp only [hlen2]; omega) q2 h2
    omega
  simp only [hset] at hs3 hc3
  have p1' : Part tt w (Now c w g2 (os2 ++ [Ob.dead]).length) md ti.cells.length xs ax φs := by
    intro h0
    obtain ⟨b, off2, vs, r1, r2, r3⟩ := p1 (by omega)
    exact ⟨b, off2, vs, r1, fun p q hp hq => r2 p q (by omega) hq, fun p q hp hq => by rw [hxg p hp]; exact (r3 p q (by omega) hq).mono (fun b hb => ⟨(hc3.now hs2.inv b hb).1, rfl⟩) fun b hb => ⟨hb, rfl⟩⟩
  obtain ⟨v, w', g', h1, h2, h3, h4⟩ := append_core (P := P) (U := U) (ay := ay) (capy := capy) hT hti hte hd hk hb2 hs3 (xs := xs) (ax := ax) (capx := capx) (md := md) hbg (by omega) (Ψ := fun b => Ψ b ∨ g2.φ os2.length b) (φx := φs) (φy := φy)
    (fun b hb => by
      rcases hb with hb | hb
      · obtain ⟨m, q1, q2⟩ := hΨ b hb
        exact ⟨m, by rw [List.getElem?_append_left (ob_lt q1)]; exact q1, q2⟩
      · exact ⟨os2.length, by rw [List.getElem?_append_right (by simp)]; simp, hb⟩) p1' (hY.mono rfl fun b hb => (hc3.now hs2.inv b hb).1) hfx hfy
    ⟨fun i j t hi hj h => .inr (p2 i j t (by omega) hj h), fun i j t hi hj h => .inl (hφy i j t hi hj h), fun i j i' j' t hi hj hi' hj' => p3 i j i' j' t (by omega) hj (by omega) hj', hyy, fun i j i' j' t hi hj hi' hj' h h' => hxy t (hφy i' j' t hi' hj' h') (p2 i j t (by omega) hj h)⟩ (fun hn => by
      rcases Nat.eq_zero_or_pos capx with h0 | h0
      · exact ⟨h0, by omega⟩
      · obtain ⟨b, _, hb, _⟩ := hblk h0
        rw [hn] at hb; cases hb) (fun _ => by
      rcases Nat.eq_zero_or_pos capx with h0 | h0
      · exact .inl h0
      · obtain ⟨b, cur, hb, hh, hsz, hφb, hnb⟩ := hblk h0
        exact .inr ⟨b, cur, hb, hh, hsz, .inr hφb, fun i j t hi hj h => hnb i j t (by omega) hj h, fun i j t hi hj h e => hxy t (hφy i j t hi hj h) (e ▸ hφb)⟩)
  exact ⟨v, w', g', h1, h2, (hc3.stp hs2.inv).trans h3, h4⟩
theorem down_le {fl : Bool} {y : C} {my md : Md} {os1 : List Ob} (h : srcMd fl y os = (my, os1)) (hmm : fl = true ∨ Md.beq my md.down = true) : Md.le md.down my = true := by
  rcases hmm with hf | hm
  · unfold srcMd at h
    simp only [hf, cond_true, Prod.mk.injEq] at h
    rw [← h.1]
    cases md <;> rfl
  · rw [Md.beq_eq hm]
    cases md.down <;> first | rfl | exact Nat.ble_eq_true_of_le (Nat.le_refl _)

theorem evalAppend_sound (hT : TTok P tt) {E : Env} (hE : E.B.tt = tt) {T U : TypeId} {nt : Nat} {a : Act} {s : St} {vx vy : Value} {cx cy : C} {Kv : C → St → R} (hs : RepSt tt c w g nt a s)
    (h : evalAppend E T cx cy s Kv) (hx : RepC tt w (Now c w g s.objs.length) g s.objs vx cx) (hy : RepC tt w (Now c w g s.objs.length) g s.objs vy cy) :
    ∃ v w' cv s' g', (Builtin.append_ #[T, T] U #[vx, vy]).run P w = .ok v w' ∧ RepSt tt c w' g' nt a s' ∧ Stp c w g s.objs w' g' s'.objs ∧ RepC tt w' (Now c w' g' s'.objs.length) g' s'.objs v cv ∧ Kv cv s' := by
  unfold evalAppend at h
  rw [hE] at h
  split at h
  rotate_left
  · cases h
  rename_i e ks by' hti
  split at h
  rotate_left
  · cases h
  rename_i ti hte
  split at h
  rotate_left
  · cases h
  rename_i ys xs hys hxs
  obtain ⟨hcond, hbg, hfin⟩ := bif_some h
  clear h
  simp only [Bool.and_eq_true, Bool.or_eq_true, Bool.not_eq_true'] at hcond
  obtain ⟨⟨⟨hd, hk⟩, hb2⟩, hnst⟩ := hcond
  have hk := blt_lt hk
  have hb2 := Nat.le_of_ble_eq_true hb2
  generalize hsrc : srcMd (flatKs ti.cells) cy s.objs = p at hfin
  obtain ⟨my, os1⟩ := p
  simp only at hfin
  obtain ⟨ax, capx, rfl, _, hlex, hposx⟩ := elems_rep hs.inv hxs hx
  have hfx := Laid.fits hte fun h0 => (hposx h0).1
  split at hfin
  · -- no room at all
    obtain ⟨g1, Ψ, φy, ay, capy, rfl, hs1, st1, hΨ, hl1, hY, hfy, hφy, hyy⟩ := src_sound hs hte hys hy hnst hsrc (md := my) (by cases my <;> first | rfl | exact Nat.ble_eq_true_of_le (Nat.le_refl _))
    have hx0 : xs = [] := by simpa [elems] using hxs.symm
    subst hx0
    have hcap : capx = 0 := by cases hx; rfl
    subst hcap
    obtain ⟨v, w', g', h1, h2, h3, h4⟩ := append_core (P := P) (U := U) (ay := ay) (capy := capy) hT hti hte hd hk hb2 hs1 (xs := []) (ys := ys) (ax := ax) (capx := 0) (by simpa using hbg) (by simp) (φx := noB) (fun b hb => by obtain ⟨m, q1, q2, _⟩ := hΨ b hb; exact ⟨m, q1, q2⟩) (fun h => by simp at h) hY (fun i hi => by simp at hi) hfy
      ⟨fun i j t hi => by simp at hi, hφy, fun i j i' j' t hi => by simp at hi, hyy, fun i j i' j' t hi => by simp at hi⟩ (fun _ => ⟨rfl, rfl⟩) (fun _ => .inl rfl)
    simp only [List.nil_append] at h2 h3 h4
    exact ⟨v, w', _, _, g', h1, h2, st1.trans h3, h4, hfin⟩
  · -- no room behind it
    rename_i T0 xs0
    split at hfin
    · cases hfin
    · rename_i y0 ys0 _
      have hcap : capx = xs.length ∧ (ax = none → xs.length = 0) := by
        have hxe : xs0 = xs ∧ T0 = e := by
          simp only [elems] at hxs
          cases hT' : Nat.beq T0 e with
          | false => simp [hT'] at hxs
          | true => exact ⟨by simpa [hT'] using hxs, Nat.eq_of_beq_eq_true hT'⟩
        obtain ⟨rfl, rfl⟩ := hxe
        generalize hv : Value.slice ax xs0.length capx = v at hx
        cases hx with
        | full a _ _ n hn h =>
          cases hv
          refine ⟨rfl, fun h0 => ?_⟩
          rcases Nat.eq_zero_or_pos xs0.length with h1 | h1
          · exact h1
          · obtain ⟨_, _, _, _, _, _, _, hsome, _⟩ := (hposx h1).1
            rw [h0] at hsome; cases hsome
      obtain ⟨hc1, hc2⟩ := hcap
      subst hc1
      obtain ⟨md, hmd⟩ : ∃ md, md = (bif flatKs ti.cells then Md.deep else Md.lv 0) := ⟨_, rfl⟩
      have hle : Md.le md my = true := by
        rw [hmd]
        cases hf : flatKs ti.cells with
        | true =>
          unfold srcMd at hsrc
          simp only [hf, cond_true, Prod.mk.injEq] at hsrc
          rw [← hsrc.1]; rfl
        | false => exact zero_le _
      obtain ⟨g1, Ψ, φy, ay, capy, rfl, hs1, st1, hΨ, hl1, hY, hfy, hφy, hyy⟩ := src_sound hs hte hys hy hnst hsrc hle
      have hX : Part tt w (Now c w g1 os1.length) md ti.cells.length xs ax noB := by
        rw [hmd]
        cases hf : flatKs ti.cells with
        | true => exact Laid.flat _ hte hf fun h0 => (hposx h0).1
        | false => exact (Laid.froz hte fun h0 => (hposx h0).2 rfl).mono rfl fun b hb => (st1.now b hb).1
      obtain ⟨v, w', g', h1, h2, h3, h4⟩ := append_core (P := P) (U := U) (ay := ay) (capy := capy) hT hti hte hd hk hb2 hs1 (xs := xs) (ax := ax) (capx := xs.length) hbg (Nat.le_refl _) (φx := noB) (fun b hb => by obtain ⟨m, q1, q2, _⟩ := hΨ b hb; exact ⟨m, q1, q2⟩) hX hY hfx hfy
        ⟨fun i j t _ _ h => h.elim, hφy, fun i j i' j' t _ _ _ _ h => h.elim, hyy, fun i j i' j' t _ _ _ _ h => h.elim⟩ (fun h => ⟨hc2 h, hc2 h⟩) (fun h => by simp only [List.length_cons] at h; omega)
      rw [hmd] at h2 h3 h4
      exact ⟨v, w', _, _, g', h1, h2, st1.trans h3, h4, hfin⟩
  · -- a row of one's own
    rename_i o
    split at hfin
    · rename_i T0 mx ver0 xs1 ho1
      have ho1' := getD_some ho1 (by simp)
      obtain ⟨md, hmd⟩ : ∃ md, md = (bif flatKs ti.cells then Md.deep else Md.min mx my) := ⟨_, rfl⟩
      have hle : Md.le md my = true := by
        rw [hmd]
        cases hf : flatKs ti.cells with
        | true =>
          unfold srcMd at hsrc
          simp only [hf, cond_true, Prod.mk.injEq] at hsrc
          rw [← hsrc.1]; rfl
        | false => exact (min_le mx my).2
      obtain ⟨g1, Ψ, φy, ay, capy, rfl, hs1, st1, hΨ, hl1, hY, hfy, hφy, hyy⟩ := src_sound hs hte hys hy hnst hsrc hle
      -- the row stands still
      have hold : ∃ ver, s.objs[o]? = some (.row e mx ver xs) ∧ os1[o]? = some (.row e mx ver xs) := by
        have hdead : ∀ ob, s.objs[o]? = some ob → os1[o]? = some ob ∨ os1[o]? = some .dead := fun ob h => src_keeps hsrc h
        rcases elems_row hxs with ⟨m2, ver, hq⟩ | hq
        · rcases hdead _ hq with h | h
          · rw [ho1'] at h
            cases h
            exact ⟨_, hq, ho1'⟩
          · rw [ho1'] at h; cases h
        · rcases hdead _ hq with h | h <;> rw [ho1'] at h <;> cases h
      obtain ⟨ver, hq, hq1⟩ := hold
      have hx1 := st1.rep hx
      obtain ⟨hη, hXr⟩ := hs1.inv.handle hq1 hx1
      have hmo : ∀ m b, os1[m]? = some .dead → g1.φ m b → ¬ g1.φ o b := fun m b h1 h2 h3 => by
        have := hs1.inv.dj m o b (ob_lt h1) (ob_lt hq1) h2 h3
        subst this
        rw [hq1] at h1; cases h1
      cases hf : flatKs ti.cells with
      | true =>
        rw [hf, cond_true] at hmd
        subst hmd
        obtain ⟨_, _, φs, _, _, _, hblk⟩ := RowX.part hXr hte
        have hs2 := hs1.die hq1
        have hc2 := Chg.die hs1.inv hq1
        obtain ⟨v, w', g', h1, h2, h3, h4⟩ := append_core (P := P) (U := U) (ay := ay) (capy := capy) hT hti hte hd hk hb2 hs2 (xs := xs) (ax := ax) (capx := capx) (md := .deep) hbg hlex (Ψ := fun b => Ψ b ∨ g1.φ o b) (φx := noB) (φy := φy)
          (fun b hb => by
            rcases hb with hb | hb
            · obtain ⟨m, q1, q2, _⟩ := hΨ b hb
              have hmo' : m ≠ o := by rintro rfl; rw [hq1] at q1; cases q1
              exact ⟨m, by show (os1.set o .dead)[m]? = _; rw [List.getElem?_set_ne (Ne.symm hmo')]; exact q1, q2⟩
            · exact ⟨o, List.getElem?_set_self (ob_lt hq1), hb⟩) (Laid.flat _ hte hf fun h0 => (hposx h0).1) (hY.mono rfl fun b hb => (hc2.now hs1.inv b hb).1) hfx hfy
          ⟨fun i j t _ _ h => h.elim, fun i j t hi hj h => .inl (hφy i j t hi hj h), fun i j i' j' t _ _ _ _ h => h.elim, hyy, fun i j i' j' t _ _ _ _ h => h.elim⟩ (fun hn => by
            rcases Nat.eq_zero_or_pos capx with h0 | h0
            · exact ⟨h0, by omega⟩
            · obtain ⟨b, _, hb, _⟩ := hblk h0
              rw [hn] at hb; cases hb) (fun _ => by
            rcases Nat.eq_zero_or_pos capx with h0 | h0
            · exact .inl h0
            · obtain ⟨b, cur, hb, hh, hsz, hφb, _⟩ := hblk h0
              exact .inr ⟨b, cur, hb, hh, hsz, .inr hφb, fun i j t _ _ h => h.elim, fun i j t hi hj h e => by
                obtain ⟨m, q1, q2, _⟩ := hΨ t (hφy i j t hi hj h)
                exact hmo m t q1 q2 (e ▸ hφb)⟩)
        rw [hf] at hfin
        have hl2 : (os1.set o .dead).length = os1.length := by simp
        simp only [hl2] at h4
        exact ⟨v, w', _, _, g', h1, h2, (st1.trans (hc2.stp hs1.inv)).trans h3, by simpa using h4, by simpa using hfin⟩
      | false =>
        rw [hf, cond_false] at hmd
        obtain ⟨g2, hs2, st2, e1, e2, e3, e4⟩ := weak_step hs1 hq1 (md' := md) (by rw [hmd]; exact (min_le mx my).1)
        have hrow : (os1.set o (.row e md ver xs))[o]? = some (.row e md ver xs) := List.getElem?_set_self (ob_lt hq1)
        have hX2 := hs2.inv.ob o _ _ hrow (by rw [e1]; exact hη)
        obtain ⟨_, _, φs, p1, p2, p3, hblk⟩ := RowX.part hX2 hte
        have hs3 := hs2.die hrow
        have hc3 := Chg.die hs2.inv hrow
        simp only [List.set_set] at hs3 hc3
        have hΨ2 : ∀ b, Ψ b → ∃ m, m ≠ o ∧ os1[m]? = some .dead ∧ g2.φ m b := fun b hb => by
          obtain ⟨m, q1, q2, _⟩ := hΨ b hb
          have hmo' : m ≠ o := by rintro rfl; rw [hq1] at q1; cases q1
          exact ⟨m, hmo', q1, (e3 m b hmo').2 q2⟩
        have hxy : ∀ b, Ψ b → g2.φ o b → False := fun b h1 h2 => by
          obtain ⟨m, q0, q1, q2⟩ := hΨ2 b h1
          exact q0 (hs2.inv.dj m o b (by simpa using ob_lt q1) (by simpa using ob_lt hq1) q2 h2)
        obtain ⟨v, w', g', h1, h2, h3, h4⟩ := append_core (P := P) (U := U) (ay := ay) (capy := capy) hT hti hte hd hk hb2 hs3 (xs := xs) (ax := ax) (capx := capx) (md := md) hbg hlex (Ψ := fun b => Ψ b ∨ g2.φ o b) (φx := φs) (φy := φy)
          (fun b hb => by
            rcases hb with hb | hb
            · obtain ⟨m, q0, q1, q2⟩ := hΨ2 b hb
              exact ⟨m, by show (os1.set o .dead)[m]? = _; rw [List.getElem?_set_ne (Ne.symm q0)]; exact q1, q2⟩
            · exact ⟨o, List.getElem?_set_self (ob_lt hq1), hb⟩) (p1.mono rfl fun b hb => (hc3.now hs2.inv b hb).1) (hY.mono rfl fun b hb => (hc3.now hs2.inv b (st2.now b hb).1).1) hfx hfy
          ⟨fun i j t hi hj h => .inr (p2 i j t hi hj h), fun i j t hi hj h => .inl (hφy i j t hi hj h), p3, hyy, fun i j i' j' t hi hj hi' hj' h h' => hxy t (hφy i' j' t hi' hj' h') (p2 i j t hi hj h)⟩ (fun hn => by
            rcases Nat.eq_zero_or_pos capx with h0 | h0
            · exact ⟨h0, by omega⟩
            · obtain ⟨b, _, hb, _⟩ := hblk h0
              rw [hn] at hb; cases hb) (fun _ => by
            rcases Nat.eq_zero_or_pos capx with h0 | h0
            · exact .inl h0
            · obtain ⟨b, cur, hb, hh, hsz, hφb, hnb⟩ := hblk h0
              exact .inr ⟨b, cur, hb, hh, hsz, .inr hφb, hnb, fun i j t hi hj h e => hxy t (hφy i j t hi hj h) (e ▸ hφb)⟩)
        have hl2 : (os1.set o .dead).length = os1.length := by simp
        rw [hf, cond_false, ← hmd] at hfin
        simp only [hl2] at h4
        exact ⟨v, w', _, _, g', h1, h2, ((st1.trans st2).trans (hc3.stp hs2.inv)).trans h3, by simpa using h4, by simpa using hfin⟩
    · cases hfin
  · -- a slice in a row's cell, or in a map's entry
    rename_i e' o ver i off
    split at hfin
    · rename_i T0 md ver0 xs0 ho1
      have ho1' := getD_some ho1 (by simp)
      obtain ⟨hc1, hfin⟩ := bif_some hfin
      simp only [Bool.and_eq_true, Bool.or_eq_true, Bool.not_eq_true'] at hc1
      obtain ⟨hz, hmm⟩ := hc1
      obtain ⟨rfl, hor⟩ := elems_nst hxs
      obtain ⟨g1, Ψ, φy, ay, capy, rfl, hs1, st1, hΨ, hl1, hY, hfy, hφy, hyy⟩ := src_sound hs hte hys hy hnst hsrc (down_le hsrc hmm)
      rcases hor with ⟨T1, md1, xs1, hq, hz1, hxe⟩ | ⟨K1, V1, md1, es1, hq, _⟩
      rotate_left
      · rcases src_keeps hsrc hq with hq1 | hq1 <;> rw [ho1'] at hq1 <;> cases hq1
      rcases src_keeps hsrc hq with hq1 | hq1
      rotate_left
      · rw [ho1'] at hq1; cases hq1
      rw [ho1'] at hq1
      cases hq1
      have hx1 := st1.rep hx
      generalize hv0 : Value.slice ax xs.length capx = v0 at hx1
      cases hx1 with
      | nst _ _ _ _ _ _ hol hn' hone =>
        obtain ⟨hv, hi, ti0, hti0, hke⟩ := (hn' _ _ _ (.inl ⟨_, _, ho1', rfl⟩)).2 rfl
        obtain ⟨g2, hs2, st2, e1, e2, e3⟩ := open_step hs1 ho1' hz hi hti0 hke hte hd hk
        rw [← hv, ← hv0] at e1
        rw [hxe] at hfx hbg
        obtain ⟨v, w', g', h1, h2, h3, h4⟩ := append_open (P := P) (U := U) (ay := ay) (capy := capy) (xs := nstF xs0 i off) (Ψ := Ψ) (φy := φy) (ax := ax) (capx := capx) (m1 := xs.length) hT hti hte hd hk hb2 hs2 (by
            rw [e1]
            have := hs1.inv.len
            simp only at this
            simp [← this]) hbg ⟨Nat.le_refl _, fun _ _ => rfl⟩ (fun b hb => by
            obtain ⟨m, q1, q2, _⟩ := hΨ b hb
            have hmo : m ≠ o := by rintro rfl; rw [ho1'] at q1; cases q1
            exact ⟨m, by rw [List.getElem?_set_ne (Ne.symm hmo)]; exact q1, (e3 m b hmo (ob_lt q1)).2 q2⟩) (hY.mono rfl fun b hb => (st2.now b hb).1) hfx hfy hφy hyy
        rw [← hv0, hxe]
        refine ⟨v, w', _, _, g', h1, h2, (st1.trans st2).trans h3, h4, ?_⟩
        rw [hxe] at hfin
        simpa using hfin
    · rename_i K V md ver0 es0 ho1
      have ho1' := getD_some ho1 (by simp)
      obtain ⟨hc1, hfin⟩ := bif_some hfin
      simp only [Bool.and_eq_true, Bool.or_eq_true, Bool.not_eq_true'] at hc1
      obtain ⟨hz, hmm⟩ := hc1
      obtain ⟨rfl, hor⟩ := elems_nst hxs
      obtain ⟨g1, Ψ, φy, ay, capy, rfl, hs1, st1, hΨ, hl1, hY, hfy, hφy, hyy⟩ := src_sound hs hte hys hy hnst hsrc (down_le hsrc hmm)
      rcases hor with ⟨T1, md1, xs1, hq, _⟩ | ⟨K1, V1, md1, es1, hq, hz1, ho0, hxe⟩
      · rcases src_keeps hsrc hq with hq1 | hq1 <;> rw [ho1'] at hq1 <;> cases hq1
      subst ho0
      rcases src_keeps hsrc hq with hq1 | hq1
      rotate_left
      · rw [ho1'] at hq1; cases hq1
      rw [ho1'] at hq1
      cases hq1
      have hx1 := st1.rep hx
      generalize hv0 : Value.slice ax xs.length capx = v0 at hx1
      cases hx1 with
      | nst _ _ _ _ _ _ hol hn' hone =>
        obtain ⟨hv, hi, ti0, hti0, hke⟩ := (hn' _ _ _ (.inr (.inr (.inl ⟨_, _, _, ho1', Nat.le_refl _⟩)))).2 rfl
        obtain ⟨g2, hs2, st2, e1, e2, e3⟩ := open_map hs1 ho1' hz hi hti0 hke hte hd hk
        rw [← hv, ← hv0] at e1
        rw [hxe] at hfx hbg
        obtain ⟨v, w', g', h1, h2, h3, h4⟩ := append_open (P := P) (U := U) (ay := ay) (capy := capy) (xs := mapF es0 i) (Ψ := Ψ) (φy := φy) (ax := ax) (capx := capx) (m1 := xs.length) hT hti hte hd hk hb2 hs2 (by
            rw [e1]
            have := hs1.inv.len
            simp only at this
            simp [← this]) hbg ⟨Nat.le_refl _, fun _ _ => rfl⟩ (fun b hb => by
            obtain ⟨m, q1, q2, _⟩ := hΨ b hb
            have hmo : m ≠ o := by rintro rfl; rw [ho1'] at q1; cases q1
            exact ⟨m, by rw [List.getElem?_set_ne (Ne.symm hmo)]; exact q1, (e3 m b hmo (ob_lt q1)).2 q2⟩) (hY.mono rfl fun b hb => (st2.now b hb).1) hfx hfy hφy hyy
        rw [← hv0, hxe]
        refine ⟨v, w', _, _, g', h1, h2, (st1.trans st2).trans h3, h4, ?_⟩
        rw [hxe] at hfin
        simpa using hfin
    · cases hfin
  · -- what stands at a slice's start
    rename_i e' o ver i off lo n0
    obtain ⟨hlo, hf3⟩ := bif_some hfin
    clear hfin
    have hlo := Nat.eq_of_beq_eq_true hlo
    subst hlo
    split at hf3
    · rename_i T0 md ver0 xs0 ho1
      have ho1' := getD_some ho1 (by simp)
      obtain ⟨hc1, hfin⟩ := bif_some hf3
      clear hf3
      simp only [Bool.and_eq_true, Bool.or_eq_true, Bool.not_eq_true'] at hc1
      obtain ⟨hz, hmm⟩ := hc1
      obtain ⟨rfl, T1, md1, xs1, hq, hz1, hxe⟩ := elems_nsl hxs
      obtain ⟨g1, Ψ, φy, ay, capy, rfl, hs1, st1, hΨ, hl1, hY, hfy, hφy, hyy⟩ := src_sound hs hte hys hy hnst hsrc (down_le hsrc hmm)
      rcases src_keeps hsrc hq with hq1 | hq1
      rotate_left
      · rw [ho1'] at hq1; cases hq1
      rw [ho1'] at hq1
      cases hq1
      have hx1 := st1.rep hx
      generalize hv0 : Value.slice ax xs.length capx = v0 at hx1
      cases hx1 with
      | nsl _ _ _ _ _ _ _ _ hol hn' hone =>
        obtain ⟨⟨te, hte2, a1, m1, cap1, hν, hlo, hv⟩, hi, ti0, hti0, hke⟩ := (hn' _ _ _ (.inl ⟨_, _, ho1', rfl⟩)).2 rfl
        rw [hte] at hte2; cases hte2
        obtain ⟨g2, hs2, st2, e1, e2, e3⟩ := open_step hs1 ho1' hz hi hti0 hke hte hd hk
        have hη : g2.η[(os1.set o (Ob.hole T0 md ver xs0 i off)).length]? = some (.slice a1 m1 cap1) := by
          rw [e1, hν]
          have := hs1.inv.len
          simp only at this
          simp [← this]
        have hm1 : m1 = (nstF xs0 i off).length := by
          have hm : (os1.set o (.hole T0 md ver xs0 i off) ++ [.row e' md.down 0 (nstF xs0 i off)])[(os1.set o (Ob.hole T0 md ver xs0 i off)).length]? = some (.row e' md.down 0 (nstF xs0 i off)) := by
            rw [List.getElem?_append_right (by simp)]; simp
          exact (RowX.part (hs2.inv.ob _ _ _ hm hη) hte).1
        have hnl : xs.length = n0 := by rw [hxe]; unfold nstL; simp; omega
        have hxt : xs = (nstF xs0 i off).take n0 := by rw [hxe]; unfold nstL; simp
        rw [← hv0] at hv
        have hav : ax = a1 ∧ capx = cap1 := by
          simp only [Value.slice.injEq] at hv
          refine ⟨?_, by omega⟩
          rw [hv.1]
          split
          · rfl
          · cases a1 <;> simp [Addr.add]
        obtain ⟨rfl, rfl⟩ := hav
        obtain ⟨v, w', g', h1, h2, h3, h4⟩ := append_open (P := P) (U := U) (ay := ay) (capy := capy) (xs := xs) (Ψ := Ψ) (φy := φy) (ax := ax) (capx := capx) hT hti hte hd hk hb2 hs2 hη hbg ⟨by omega, fun p hp => by rw [hxt]; simp [List.getD_eq_getElem?_getD, show p < n0 by omega]⟩ (fun b hb => by
            obtain ⟨m, q1, q2, _⟩ := hΨ b hb
            have hmo : m ≠ o := by rintro rfl; rw [ho1'] at q1; cases q1
            exact ⟨m, by rw [List.getElem?_set_ne (Ne.symm hmo)]; exact q1, (e3 m b hmo (ob_lt q1)).2 q2⟩) (hY.mono rfl fun b hb => (st2.now b hb).1) hfx hfy hφy hyy
        rw [← hv0]
        refine ⟨v, w', _, _, g', h1, h2, (st1.trans st2).trans h3, h4, ?_⟩
        simpa using hfin
    · cases hf3
  · cases hfin

end Go.Proofs.EN
