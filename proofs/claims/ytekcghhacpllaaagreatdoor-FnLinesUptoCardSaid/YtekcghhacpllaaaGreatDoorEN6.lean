/- Contracts of functions of this program, by the evaluator EN. No conditions but those that each theorem states. -/
import Derived.Test.YtekcghhacpllaaaGreatDoorEN5
/- Places, slices, conversions. -/
namespace Go.Proofs.EN
open Go
set_option linter.unusedVariables false
set_option linter.unusedSimpArgs false
variable {tt : TypeId → Option TI} {P : Program} {c : Ctx} {w : World} {g : Gh} {os : List Ob} {S : Nat → Prop}

theorem run_fieldAt {fs : List (Nat × TypeId)} {ks : List CK} {T : TypeId} {by' : Nat} {info : TypeInfo} (hT : TTok P tt) (hTi : TIok P T ⟨.struct fs, ks, by'⟩ info) {f off : Nat} {U : TypeId} {tu : TI} (hf : fs[f]? = some (off, U))
    (hU : tt U = some tu) (h0 : 0 < tu.cells.length) (b o : Nat) : (Instr.fieldAt T (.pointer (some ⟨b, o, none⟩)) f).run P w = .ok (.pointer (some ⟨b, o + off, none⟩)) w := by
  obtain ⟨infu, hTu⟩ := hT U _ hU
  obtain ⟨fields, hu, hfs, _⟩ := hTi.uk
  have : ∃ fld, fields[f]? = some fld ∧ fld.offset = off ∧ fld.type = U := by
    rw [← hfs] at hf
    simp only [List.getElem?_map, Option.map_eq_some_iff, Prod.mk.injEq] at hf
    obtain ⟨fld, h1, h2, h3⟩ := hf
    exact ⟨fld, by simpa using h1, h2, h3⟩
  obtain ⟨fld, h1, rfl, rfl⟩ := this
  have hne : tu.cells ≠ [] := by intro hnil; rw [hnil] at h0; simp at h0
  simp [Instr.fieldAt, run_underlying hu, h1, Instr.sureAddr, fieldPlace, sizeOf, typeInfo, hTu.inf, hTu.size, hne, Addr.add_lit]

theorem ba_extract (t : Str) (l r : Nat) : (⟨t.toArray⟩ : ByteArray).extract l r = ⟨((t.take r).drop l).toArray⟩ := by
  apply ByteArray.ext
  apply Array.ext'
  simp [ByteArray.data_extract, Array.toList_extract, List.extract_eq_take_drop]
  rw [List.drop_take]


theorem isR3_row {o : Nat} {T T2 : TypeId} {md : Md} {ver n : Nat} {xs : List (List D)} (ho : os[o]? = some (.row T md ver xs)) (h : isR3 os o T2 n) : T2 = T ∧ n = xs.length := by
  rcases h with ⟨_, _, _, hq, rfl⟩ | ⟨_, _, _, _, _, hq, _⟩ | ⟨_, hq, _⟩ <;> rw [ho] at hq <;> cases hq
  exact ⟨rfl, rfl⟩
theorem isRH_row {o : Nat} {T T2 : TypeId} {md : Md} {ver ver2 n : Nat} {xs : List (List D)} (ho : os[o]? = some (.row T md ver xs)) (h : isRH os o T2 ver2 n) : T2 = T ∧ n = xs.length ∧ ver2 = ver := by
  rcases h with ⟨_, _, hq, rfl⟩ | ⟨_, _, _, _, hq, _⟩ | ⟨_, _, _, hq, _⟩ | ⟨_, _, _, _, hq, _⟩ <;> rw [ho] at hq <;> cases hq
  exact ⟨rfl, rfl, rfl⟩
theorem isRH_map {o : Nat} {K T T2 : TypeId} {md : Md} {ver ver2 n : Nat} {es : List (D × D)} (ho : os[o]? = some (.map K T md ver es)) (h : isRH os o T2 ver2 n) : T2 = T ∧ es.length ≤ n ∧ ver2 = ver := by
  rcases h with ⟨_, _, hq, rfl⟩ | ⟨_, _, _, _, hq, _⟩ | ⟨_, _, _, hq, hn⟩ | ⟨_, _, _, _, hq, _⟩ <;> rw [ho] at hq <;> cases hq
  exact ⟨rfl, hn, rfl⟩
theorem isR3_frz {o : Nat} {T T2 : TypeId} {n : Nat} {xs : List (List D)} (ho : os[o]? = some (.frz T xs)) (h : isR3 os o T2 n) : T2 = T ∧ n = xs.length := by
  rcases h with ⟨_, _, _, hq, rfl⟩ | ⟨_, _, _, _, _, hq, _⟩ | ⟨_, hq, rfl⟩ <;> rw [ho] at hq <;> cases hq
  exact ⟨rfl, rfl⟩

theorem evalIndexAddr_sound (hT : TTok P tt) {E : Env} (hE : E.B.tt = tt) {T : TypeId} {s : St} {vx vi : Value} {cx ci : C} {Kv : C → R} (hI : Inv tt c w g s.objs)
    (h : evalIndexAddr E T cx ci s Kv) (hx : RepC tt w (Now c w g s.objs.length) g s.objs vx cx) (hi : RepC tt w (Now c w g s.objs.length) g s.objs vi ci) :
    ∃ v cv, (Instr.indexAt T vx vi).run P w = .ok v w ∧ RepC tt w (Now c w g s.objs.length) g s.objs v cv ∧ Kv cv := by
  unfold evalIndexAddr at h
  rw [hE] at h
  split at h
  · rename_i e ks by' n hti hn
    obtain ⟨k, rfl⟩ := natC_inv hn hi
    split at h
    · rename_i ti hte
      split at h
      · rename_i xs hxs
        obtain ⟨hd, ⟨h0, h1⟩, hfin⟩ := bif_some h
        clear h
        obtain ⟨a, cap, rfl, hbg, hle, hpos⟩ := elems_rep hI hxs hx
        obtain ⟨⟨ti2, ht2, hd2, hk, hfit, b, off, rfl, hb, _, vs, hc, hr⟩, hdata⟩ := hpos (by omega)
        rw [hte] at ht2
        cases ht2
        obtain ⟨info, hTi⟩ := hT T _ hti
        obtain ⟨infe, hTe⟩ := hT e _ hte
        have hu := hTi.uk.1
        have hrun : (Instr.indexAt T (.slice (some ⟨b, off, none⟩) xs.length cap) (.int k n)).run P w = .ok (.pointer (some ⟨b, off + n.toNat * ti.cells.length, none⟩)) w := by
          simp [Instr.indexAt, asIntOf, run_underlying hu, h0, h1, sizeOf, typeInfo, hTe.inf, hTe.size, Addr.add_lit]
        have hin : n.toNat < xs.length := by omega
        have hl := hI.len
        split at hfin
        · -- a row of one's own
          rename_i o
          refine ⟨_, _, hrun, ?_, hfin⟩
          unfold elems at hxs
          simp only at hxs
          split at hxs
          · rename_i T' md ver ys ho
            have ho' := getD_some ho (by simp)
            cases hq : Nat.beq T' e with
            | false => simp [hq] at hxs
            | true =>
              have hTe' : T' = e := Nat.eq_of_beq_eq_true hq
              simp only [hq, cond_true, Option.some.injEq] at hxs
              subst hxs hTe'
              generalize hv : Value.slice (some ⟨b, off, none⟩) ys.length cap = v0 at hx
              cases hx with
              | row _ _ hol hrow h1' =>
                refine .rp o n.toNat 0 _ _ hol fun m T2 h3 => ?_
                obtain ⟨rfl, rfl⟩ := isR3_row ho' h3
                exact ⟨hin, ti, off, _, cap, hte, by rw [hv]; exact hrow (by rw [ho']; simp), by omega⟩
          · rename_i T' ys ho
            have ho' := getD_some ho (by simp)
            cases hq : Nat.beq T' e with
            | false => simp [hq] at hxs
            | true =>
              have hTe' : T' = e := Nat.eq_of_beq_eq_true hq
              simp only [hq, cond_true, Option.some.injEq] at hxs
              subst hxs hTe'
              generalize hv : Value.slice (some ⟨b, off, none⟩) ys.length cap = v0 at hx
              cases hx with
              | row _ _ hol hrow h1' =>
                refine .rp o n.toNat 0 _ _ hol fun m T2 h3 => ?_
                obtain ⟨rfl, rfl⟩ := isR3_frz ho' h3
                exact ⟨hin, ti, off, _, cap, hte, by rw [hv]; exact hrow (by rw [ho']; simp), by omega⟩
          · cases hxs
        · rename_i e' o ver i off'
          unfold elems at hxs
          simp only at hxs
          split at hxs
          · rename_i T0 md ver' xs0 ho
            have ho' := getD_some ho (by simp)
            cases hb' : (Nat.beq e' e && (Nat.beq ver ver' && !md.isZ)) with
            | false => simp [hb'] at hxs
            | true =>
              simp only [hb', cond_true, Option.some.injEq] at hxs
              simp only [Bool.and_eq_true, Bool.not_eq_true'] at hb'
              obtain ⟨q1, q2, q3⟩ := hb'
              have q1 := Nat.eq_of_beq_eq_true q1
              have q2 := Nat.eq_of_beq_eq_true q2
              subst q1 q2 hxs
              refine ⟨_, _, hrun, ?_, hfin⟩
              generalize hv : Value.slice (some ⟨b, off, none⟩) (nstF xs0 i off').length cap = v0 at hx
              cases hx with
              | nst _ _ _ _ _ _ hol hn' hone =>
                refine .np e' o ver i off' n.toNat 0 _ _ hol fun T2 ver2 m h3 => ?_
                refine ⟨(hn' T2 ver2 m h3).1, fun hve => ?_⟩
                obtain ⟨hv2, hi2, hti2⟩ := (hn' T2 ver2 m h3).2 hve
                obtain ⟨rfl, rfl, _⟩ := isRH_row ho' h3
                obtain ⟨t2, ht2, he2⟩ := hti2
                obtain ⟨u0, hu0⟩ := hI.eta ho'
                obtain ⟨φ', _, _, hw⟩ := nst_inv (hI.ob o _ u0 ho' hu0) q3 hi2 ht2 he2
                rw [← hv2, ← hv] at hw
                obtain ⟨a2, cap2, he3, _, _, hcs⟩ := hw.list_inv q3
                cases he3
                obtain ⟨_, _, _, _, _, b2, _, _, hb2, _⟩ := hcs (by omega)
                cases hb2
                exact ⟨hi2, ⟨t2, ht2, he2⟩, ti, _, cap, hte, by rw [← hv2, ← hv], hin, by omega⟩
          · rename_i K T0 md ver' es0 ho
            have ho' := getD_some ho (by simp)
            cases hb' : (Nat.beq e' e && (Nat.beq ver ver' && (!md.isZ && Nat.beq off' 0))) with
            | false => simp [hb'] at hxs
            | true =>
              simp only [hb', cond_true, Option.some.injEq] at hxs
              simp only [Bool.and_eq_true, Bool.not_eq_true'] at hb'
              obtain ⟨q1, q2, q3, q4⟩ := hb'
              have q1 := Nat.eq_of_beq_eq_true q1
              have q2 := Nat.eq_of_beq_eq_true q2
              have q4 := Nat.eq_of_beq_eq_true q4
              subst q1 q2 hxs q4
              refine ⟨_, _, hrun, ?_, hfin⟩
              generalize hv : Value.slice (some ⟨b, off, none⟩) (mapF es0 i).length cap = v0 at hx
              cases hx with
              | nst _ _ _ _ _ _ hol hn' hone =>
                refine .np e' o ver i 0 n.toNat 0 _ _ hol fun T2 ver2 m h3 => ?_
                refine ⟨(hn' T2 ver2 m h3).1, fun hve => ?_⟩
                obtain ⟨hv2, hi2, hti2⟩ := (hn' T2 ver2 m h3).2 hve
                obtain ⟨rfl, _, rfl⟩ := isRH_map ho' h3
                obtain ⟨_, hi3, _⟩ := (hn' T2 _ _ (.inr (.inr (.inl ⟨K, md, es0, ho', Nat.le_refl _⟩)))).2 hve
                obtain ⟨t2, ht2, he2⟩ := hti2
                obtain ⟨u0, hu0⟩ := hI.eta ho'
                obtain ⟨φ', _, _, hw⟩ := map_inv (hI.ob o _ u0 ho' hu0) hi3 ht2 he2
                rw [← hv2, ← hv] at hw
                obtain ⟨a2, cap2, he3, _, _, hcs⟩ := hw.list_inv q3
                cases he3
                obtain ⟨_, _, _, _, _, b2, _, _, hb2, _⟩ := hcs (by omega)
                cases hb2
                exact ⟨hi2, ⟨t2, ht2, he2⟩, ti, _, cap, hte, by rw [← hv2, ← hv], hin, by omega⟩
          · cases hxs
        · rename_i e' o ver i off' lo m0
          unfold elems at hxs
          simp only at hxs
          split at hxs
          · rename_i T0 md ver' xs0 ho
            have ho' := getD_some ho (by simp)
            cases hb' : (Nat.beq e' e && (Nat.beq ver ver' && !md.isZ)) with
            | false => simp [hb'] at hxs
            | true =>
              simp only [hb', cond_true, Option.some.injEq] at hxs
              simp only [Bool.and_eq_true, Bool.not_eq_true'] at hb'
              obtain ⟨q1, q2, q3⟩ := hb'
              have q1 := Nat.eq_of_beq_eq_true q1
              have q2 := Nat.eq_of_beq_eq_true q2
              subst q1 q2 hxs
              refine ⟨_, _, hrun, ?_, hfin⟩
              generalize hv : Value.slice (some ⟨b, off, none⟩) (nstL xs0 i off' lo m0).length cap = v0 at hx
              cases hx with
              | nsl _ _ _ _ _ _ _ _ hol hn' hone =>
                refine .np e' o ver i off' (lo + n.toNat) 0 _ _ hol fun T2 ver2 m h3 => ?_
                refine ⟨(hn' T2 ver2 m h3).1, fun hve => ?_⟩
                obtain ⟨⟨te, hte2, a1, m1, cap1, hν, hlo, hv2⟩, hi2, hti2⟩ := (hn' T2 ver2 m h3).2 hve
                rw [hte] at hte2; cases hte2
                obtain ⟨rfl, rfl, _⟩ := isRH_row ho' h3
                obtain ⟨t2, ht2, he2⟩ := hti2
                obtain ⟨u0, hu0⟩ := hI.eta ho'
                obtain ⟨φ', _, _, hw⟩ := nst_inv (hI.ob o _ u0 ho' hu0) q3 hi2 ht2 he2
                rw [hν] at hw
                obtain ⟨a2, cap2, he3, _, hle3, hcs⟩ := hw.list_inv q3
                cases he3
                have hnl : (nstL xs0 i off' lo m0).length = m0 := by unfold nstL; simp; omega
                rw [hnl] at hin
                obtain ⟨_, _, _, _, _, b2, _, _, rfl, _⟩ := hcs (by omega)
                rw [← hv] at hv2
                rw [if_neg (by omega)] at hv2
                simp only [Option.map_some, Addr.add_lit, Value.slice.injEq, Option.some.injEq, Addr.mk.injEq, and_true] at hv2
                obtain ⟨⟨rfl, rfl⟩, _, _⟩ := hv2
                exact ⟨hi2, ⟨t2, ht2, he2⟩, ti, _, _, hte, hν, by omega, by rw [Nat.add_mul]; omega⟩
          · cases hxs
        · rename_i hno1 hno2 hno3
          have hown : cx.own = false := by
            cases cx <;> first | rfl | exact absurd rfl (hno1 _) | exact absurd rfl (hno2 _ _ _ _ _) | exact absurd rfl (hno3 _ _ _ _ _ _ _)
          obtain ⟨ti3, ht3, hd3, hk3, hfit3, b3, off3, hb3, _, hnow, vs3, hc3, hr3⟩ := hdata hown
          cases hb3
          rw [hte] at ht3; cases ht3
          refine ⟨_, _, hrun, ?_, hfin⟩
          have := RepC.lp (tt := tt) (w := w) (S := Now c w g s.objs.length) (g := g) (os := s.objs) ti.cells (xs.getD n.toNat []) 0 b (off + n.toNat * ti.cells.length) (fun j => vs3 n.toNat j) hnow (hfit _ hin)
            (fun j hj => by rw [Nat.add_assoc]; exact hc3 _ _ hin hj) (fun j hj => hr3 _ _ hin hj)
          simpa using this
      · split at h
        · rename_i o _
          split at h
          · rename_i T' md ver xs i0 j0 ho
            have ho' := getD_some ho (by simp)
            obtain ⟨hq, ⟨h0, h1⟩, hk⟩ := bif_some h
            obtain rfl := Nat.eq_of_beq_eq_true hq
            obtain ⟨info, hTi⟩ := hT T _ hti
            obtain ⟨infe, hTe⟩ := hT T' _ hte
            have hu := hTi.uk.1
            obtain ⟨u0, hu0⟩ := hI.eta ho'
            obtain ⟨a, cap, ti2, rfl, ht2, _, hk0, _, hcap, hbig, hblk⟩ := (hI.ob o _ u0 ho' hu0 : RowX tt w (Now c w g s.objs.length) (fun i j => i = i0 ∧ j = j0) md u0 T' xs (g.φ o) (g.ν o))
            rw [hte] at ht2
            cases ht2
            obtain ⟨b, vs, φs, rfl, _⟩ := hblk (by omega)
            cases hx with
            | row _ _ hol hrow h1' =>
              have hv := hrow (by rw [ho']; simp)
              rw [hu0] at hv
              cases hv
              have hrun : (Instr.indexAt T (.slice (some ⟨b, 0, none⟩) xs.length cap) (.int k n)).run P w = .ok (.pointer (some ⟨b, 0 + n.toNat * ti.cells.length, none⟩)) w := by
                simp [Instr.indexAt, asIntOf, run_underlying hu, h0, h1, sizeOf, typeInfo, hTe.inf, hTe.size, Addr.add_lit]
              refine ⟨_, _, hrun, .rp o n.toNat 0 _ _ hol fun m T2 h3 => ?_, hk⟩
              obtain ⟨rfl, rfl⟩ : T2 = T' ∧ m = xs.length := by
                rcases h3 with ⟨_, _, _, hq, rfl⟩ | ⟨_, _, _, _, _, hq, rfl⟩ | ⟨_, hq, _⟩ <;> rw [ho'] at hq <;> cases hq
                exact ⟨rfl, rfl⟩
              exact ⟨by omega, ti, 0, _, cap, hte, hu0, by omega⟩
          · cases h
        · cases h
    · cases h
  · cases h

/-! ### Slices of slices -/
theorem Rep.sub {a : Option Addr} {n cap : Nat} {T : TypeId} {xs : List (List D)} (h : Rep tt w S (.slice a n cap) (.list T xs)) {l r : Nat} (hlr : l ≤ r) (hr : r ≤ xs.length) (m cap' k : Nat)
    (hk : ∀ ti, tt T = some ti → k = ti.cells.length) (hm : m = l → r = l) (hcp' : r - l ≤ cap') :
    Rep tt w S (.slice (if m = l then a else a.map (·.add (l * k))) (r - l) cap') (.list T ((xs.take r).drop l)) := by
  cases h with
  | nil =>
    have h1 : r = 0 := by simpa using hr
    have h2 : l = 0 := by omega
    subst h1 h2
    exact .nil T _ _
  | list _ ti _ _ _ b off vs ht hd hk0 hcp hb hfit ha hc hrr =>
    have hkk := hk ti ht
    subst hkk
    have hlen : ((xs.take r).drop l).length = r - l := by simp; omega
    have hget : ∀ i, i < r - l → ((xs.take r).drop l).getD i [] = xs.getD (l + i) [] := fun i hi => by
      simp [List.getD_eq_getElem?_getD, show l + i < r by omega]
    rw [← hlen]
    refine .list T ti _ _ cap' b (off + l * ti.cells.length) (fun i j => vs (l + i) j) ht hd hk0 (by omega) (by omega) ?_ ?_ ?_ ?_
    · intro i hi
      rw [hlen] at hi
      rw [hget i hi]
      exact hfit _ (by omega)
    · intro h0
      rw [hlen] at h0
      obtain ⟨rfl, hS⟩ := ha (by omega)
      rw [if_neg (by omega)]
      exact ⟨by simp [Addr.add_lit], hS⟩
    · intro i j hi hj
      rw [hlen] at hi
      rw [show off + l * ti.cells.length + (i * ti.cells.length + j) = off + ((l + i) * ti.cells.length + j) by rw [Nat.add_mul]; omega]
      exact hc _ _ (by omega) hj
    · intro i j hi hj
      rw [hlen] at hi
      rw [hget i hi]
      exact hrr _ _ (by omega) hj
theorem slx_rep {e : TypeId} {cx : C} {v : Value} {xs : List (List D)} (h : slx e cx = some xs) (hx : RepC tt w S g os v cx) : ∃ a cap, v = .slice a xs.length cap ∧ Rep tt w S (.slice a xs.length cap) (.list e xs) := by
  unfold slx at h
  split at h
  · rename_i T ys
    cases hT : Nat.beq T e with
    | false => simp [hT] at h
    | true =>
      have hT' : T = e := Nat.eq_of_beq_eq_true hT
      simp only [hT, cond_true, Option.some.injEq] at h
      subst h hT'
      obtain ⟨a, cap, rfl⟩ := hx.d_inv.slice
      exact ⟨a, cap, rfl, hx.d_inv⟩
  · rename_i T ys
    cases hT : Nat.beq T e with
    | false => simp [hT] at h
    | true =>
      have hT' : T = e := Nat.eq_of_beq_eq_true hT
      simp only [hT, cond_true, Option.some.injEq] at h
      subst h hT'
      cases hx with
      | full a _ _ n hn h => subst hn; exact ⟨a, _, rfl, h⟩
  · cases h
theorem boundC_inv {o : Option C} {vo : Option Value} {d : Int} {l : Int} (hrel : Option.Rel (fun v x => RepC tt w S g os v x) vo o) (h : boundC d o = some l) : (vo = none ∧ o = none ∧ l = d) ∨ ∃ k, vo = some (.int k l) := by
  cases hrel with
  | none => simp only [boundC, Option.some.injEq] at h; exact .inl ⟨rfl, rfl, h.symm⟩
  | some hr =>
    simp only [boundC] at h
    obtain ⟨k, rfl⟩ := natC_inv h hr
    exact .inr ⟨k, rfl⟩

theorem evalSlice_sound (hT : TTok P tt) {E : Env} (hE : E.B.tt = tt) {T : TypeId} {s : St} {vx : Value} {cx : C} {lo hi mx : Option C} {vlo vhi vmx : Option Value} {Kv : C → R} (hI : Inv tt c w g s.objs)
    (h : evalSlice E T cx lo hi mx s Kv) (hx : RepC tt w (Now c w g s.objs.length) g s.objs vx cx)
    (hlo : Option.Rel (fun v x => RepC tt w (Now c w g s.objs.length) g s.objs v x) vlo lo) (hhi : Option.Rel (fun v x => RepC tt w (Now c w g s.objs.length) g s.objs v x) vhi hi) (hmx : Option.Rel (fun v x => RepC tt w (Now c w g s.objs.length) g s.objs v x) vmx mx) :
    ∃ v cv, (Instr.sliceAt T vx vlo vhi vmx).run P w = .ok v w ∧ RepC tt w (Now c w g s.objs.length) g s.objs v cv ∧ Kv cv := by
  unfold evalSlice at h
  rw [hE] at h
  split at h
  · -- with a third index
    rename_i m
    split at h
    · rename_i x hb1 hm
      split at h
      · rename_i e ks by' hti
        split at h
        · rename_i xs te hxs hte
          obtain ⟨a, cap, rfl, _⟩ := elems_rep hI hxs hx
          obtain ⟨info, hTi⟩ := hT T _ hti
          have hu := hTi.uk.1
          obtain ⟨ie, hTe⟩ := hT e _ hte
          have h2 : ∃ k, vhi = some (.int k 0) := by
            cases hhi with
            | some hr => exact ⟨_, by rw [hr.int_inv]⟩
          have h3 : ∃ k, vmx = some (.int k 0) := by
            cases hmx with
            | some hr => obtain ⟨k, rfl⟩ := natC_inv hm hr; exact ⟨k, rfl⟩
          obtain ⟨kh, rfl⟩ := h2
          obtain ⟨km, rfl⟩ := h3
          refine ⟨.slice a 0 0, .cap0, ?_, .cap0 a, h⟩
          rcases boundC_inv hlo hb1 with ⟨rfl, _, _⟩ | ⟨kl, rfl⟩ <;> simp [Instr.sliceAt, Instr.slice, run_underlying hu, Instr.sliceBounds, run_sliceBound, sizeOf, typeInfo, hTe.inf]
        · cases h
      · cases h
    · cases h
  · cases hmx
    split at h
    · rename_i ks by' hti
      obtain ⟨info, hTi⟩ := hT T _ hti
      have hu := hTi.uk.1
      split at h
      · rename_i t
        have hlb := hx.d_inv.str_le
        obtain rfl := hx.str_inv
        split at h
        · rename_i l r hl hr
          obtain ⟨⟨h0, h1, h2⟩, hfin⟩ := h
          refine ⟨_, _, ?_, rep_str _ (by simp; omega), hfin⟩
          have hbs : (Instr.sliceBounds false t.length t.length vlo vhi none).run P w = .ok (l.toNat, r.toNat, t.length) w := by
            rcases boundC_inv hlo hl with ⟨rfl, _, rfl⟩ | ⟨kl, rfl⟩ <;> rcases boundC_inv hhi hr with ⟨rfl, _, rfl⟩ | ⟨kh, rfl⟩
            · simp [Instr.sliceBounds]
            · have e1 : (r.toNat : Int) = r := Int.toNat_of_nonneg (by omega)
              simp [Instr.sliceBounds, run_sliceBound, h1, h2]
            · simp [Instr.sliceBounds, run_sliceBound, h0, h1]
            · have e1 : (r.toNat : Int) = r := Int.toNat_of_nonneg (by omega)
              simp [Instr.sliceBounds, run_sliceBound, h0, h1, h2, e1, show 0 ≤ r by omega]
          simp only [Instr.sliceAt, Sem.run_bind, run_underlying hu, Result.andThen_ok, Instr.slice, ba_size, hbs]
          simp only [Option.isSome_none, Bool.false_eq_true, if_false, Sem.run_bind, hbs, Result.andThen_ok, Sem.run_pure]
          rw [ba_extract]
        · cases h
      · cases h
    · rename_i e ks by' hti
      obtain ⟨info, hTi⟩ := hT T _ hti
      have hu := hTi.uk.1
      -- the run
      have run : ∀ {xs : List (List D)} {a : Option Addr} {cap : Nat} {te : TI} {l r : Int}, xs.length ≤ cap → tt e = some te → boundC 0 lo = some l → boundC xs.length hi = some r → 0 ≤ l → l ≤ r → r ≤ (xs.length : Int) →
          (Instr.sliceAt T (.slice a xs.length cap) vlo vhi none).run P w = .ok (.slice (if cap = l.toNat then a else a.map (·.add (l.toNat * te.cells.length))) (r.toNat - l.toNat) (cap - l.toNat)) w := by
        intro xs a cap te l r hcap hte hl hr h0 h1 h2
        obtain ⟨ie, hTe⟩ := hT e _ hte
        have e1 : (r.toNat : Int) = r := Int.toNat_of_nonneg (by omega)
        have hbs : (Instr.sliceBounds true xs.length cap vlo vhi none).run P w = .ok (l.toNat, r.toNat, cap) w := by
          rcases boundC_inv hlo hl with ⟨rfl, _, rfl⟩ | ⟨kl, rfl⟩ <;> rcases boundC_inv hhi hr with ⟨rfl, _, rfl⟩ | ⟨kh, rfl⟩
          · simp [Instr.sliceBounds]
          · simp [Instr.sliceBounds, run_sliceBound, h1, show r ≤ (cap : Int) by omega]
          · simp [Instr.sliceBounds, run_sliceBound, h0, h1]
          · simp [Instr.sliceBounds, run_sliceBound, h0, h1, e1, show 0 ≤ r by omega, show r ≤ (cap : Int) by omega]
        have hsz : (sizeOf e).run P w = .ok te.cells.length w := by simp [sizeOf, typeInfo, hTe.inf, hTe.size]
        simp only [Instr.sliceAt, Sem.run_bind, run_underlying hu, Result.andThen_ok, Instr.slice, hbs, hsz, Sem.run_pure]
      split at h
      · rename_i e' o ver i off
        split at h
        · rename_i xs te hxs hte
          split at h
          · rename_i l r hl hr
            obtain ⟨⟨h0, h1, h2⟩, hfin⟩ := h
            obtain ⟨a, cap, rfl, hbg, hle, _⟩ := elems_rep hI hxs hx
            refine ⟨_, _, run hle hte hl hr h0 h1 h2, ?_, hfin⟩
            unfold elems at hxs
            simp only at hxs
            split at hxs
            · rename_i T0 md ver' xs0 ho
              have ho' := getD_some ho (by simp)
              cases hb' : (Nat.beq e' e && (Nat.beq ver ver' && !md.isZ)) with
              | false => simp [hb'] at hxs
              | true =>
                simp only [hb', cond_true, Option.some.injEq] at hxs
                simp only [Bool.and_eq_true, Bool.not_eq_true'] at hb'
                have q1 := Nat.eq_of_beq_eq_true hb'.1
                subst q1
                generalize hv : Value.slice a xs.length cap = v0 at hx
                cases hx with
                | nst _ _ _ _ _ _ hol hn' hone =>
                  refine .nsl _ e' o ver i off l.toNat (r.toNat - l.toNat) hol (fun T2 ver2 m h3 => ⟨(hn' T2 ver2 m h3).1, fun hve => ?_⟩) rfl
                  obtain ⟨hv2, hi2, hti2⟩ := (hn' T2 ver2 m h3).2 hve
                  exact ⟨⟨te, hte, a, _, cap, by rw [← hv2, ← hv], by omega, rfl⟩, hi2, hti2⟩
            · rename_i K T0 md ver' es0 ho
              cases hb' : (Nat.beq e' e && (Nat.beq ver ver' && (!md.isZ && Nat.beq off 0))) with
              | false => simp [hb'] at hxs
              | true =>
                simp only [hb', cond_true, Option.some.injEq] at hxs
                simp only [Bool.and_eq_true, Bool.not_eq_true'] at hb'
                have q1 := Nat.eq_of_beq_eq_true hb'.1
                subst q1
                generalize hv : Value.slice a xs.length cap = v0 at hx
                cases hx with
                | nst _ _ _ _ _ _ hol hn' hone =>
                  refine .nsl _ e' o ver i off l.toNat (r.toNat - l.toNat) hol (fun T2 ver2 m h3 => ⟨(hn' T2 ver2 m h3).1, fun hve => ?_⟩) rfl
                  obtain ⟨hv2, hi2, hti2⟩ := (hn' T2 ver2 m h3).2 hve
                  exact ⟨⟨te, hte, a, _, cap, by rw [← hv2, ← hv], by omega, rfl⟩, hi2, hti2⟩
            · cases hxs
          · cases h
        · cases h
      · split at h
        · rename_i xs te hxs hte
          split at h
          · rename_i l r hl hr
            obtain ⟨⟨h0, h1, h2⟩, hfin⟩ := h
            obtain ⟨a, cap, rfl, hrep⟩ := slx_rep hxs hx
            have hcap := hrep.laid.2.1
            exact ⟨_, _, run hcap hte hl hr h0 h1 h2, .d _ _ (hrep.sub (l := l.toNat) (r := r.toNat) (by omega) (by omega) cap (cap - l.toNat) te.cells.length (fun ti ht => by rw [hte] at ht; cases ht; rfl) (fun hm => by omega) (by omega)), hfin⟩
          · cases h
        · cases h
    · cases h

/-! ### convert -/
theorem foldl_push (ns : List Int) (b : ByteArray) : ns.foldl (fun r n => r.push (UInt8.ofNat n.toNat)) b = ⟨b.data ++ (ns.map fun n => UInt8.ofNat n.toNat).toArray⟩ := by
  induction ns generalizing b with
  | nil => simp
  | cons n ns ih =>
    rw [List.foldl_cons, ih]
    apply ByteArray.ext
    simp [ByteArray.push]

theorem evalConv_sound (hT : TTok P tt) {E : Env} (hE : E.B.tt = tt) {src dst : TypeId} {s : St} {vx : Value} {cx : C} {Kv : C → R} (hI : Inv tt c w g s.objs)
    (h : evalConv E src dst cx s Kv) (hx : RepC tt w (Now c w g s.objs.length) g s.objs vx cx) :
    ∃ v cv, (convert src dst vx).run P w = .ok v w ∧ RepC tt w (Now c w g s.objs.length) g s.objs v cv ∧ Kv cv := by
  unfold evalConv at h
  rw [hE] at h
  split at h
  · rename_i j ks b k ks' b' h1 h2
    obtain ⟨_, i1⟩ := hT _ _ h1
    obtain ⟨_, i2⟩ := hT _ _ h2
    split at h
    · rename_i k0 n
      obtain rfl := hx.int_inv
      refine ⟨_, _, ?_, rep_int k (k.wrap n), h⟩
      simp [convert, run_underlying i1.uk.1, run_underlying i2.uk.1, Conv.intToInt]
    · cases h
  · rename_i ks b ks' b' h1 h2
    obtain ⟨_, i1⟩ := hT _ _ h1
    obtain ⟨_, i2⟩ := hT _ _ h2
    split at h
    · rename_i l
      have hlb := hx.d_inv.str_le
      obtain rfl := hx.str_inv
      refine ⟨_, _, ?_, rep_str l hlb, h⟩
      simp [convert, run_underlying i1.uk.1, run_underlying i2.uk.1]
    · cases h
  · rename_i e ks b ks' b' h1 h2
    obtain ⟨_, i1⟩ := hT _ _ h1
    obtain ⟨_, i2⟩ := hT _ _ h2
    split at h
    · rename_i b3 h3
      obtain ⟨_, i3⟩ := hT _ _ h3
      split at h
      · rename_i xs hxs
        obtain ⟨a, cap, rfl, hbg, _, hel⟩ := elems_rep hI hxs hx
        refine ⟨.string ⟨(strOf xs).toArray⟩, _, ?_, rep_str _ (by simpa [strOf] using hbg), h⟩
        have hconv : (convert src dst (.slice a xs.length cap)).run P w = (Conv.bytesToString (.slice a xs.length cap)).run P w := by
          cases a <;> simp [convert, run_underlying i1.uk.1, run_underlying i2.uk.1, run_underlying i3.uk.1]
        rw [hconv]
        rcases Nat.eq_zero_or_pos xs.length with h0 | h0
        · have hnil : xs = [] := List.eq_nil_of_length_eq_zero h0
          subst hnil
          cases a with
          | none => simp [Conv.bytesToString, strOf]; rfl
          | some a =>
            have := run_bytesToString (P := P) w a 0 cap [] (by
              have := run_loadCells (P := P) w a 0 (fun _ => Go.undef) (fun i hi => by omega)
              simpa using this)
            show (Conv.bytesToString (.slice (some a) 0 cap)).run P w = _
            rw [this]; rfl
        · obtain ⟨⟨ti, hti, hd, hk, hfit, bb, off, rfl, hlt, _, vs, hc, hr⟩, _⟩ := hel h0
          rw [h3] at hti
          simp only [Option.some.injEq] at hti
          subst hti
          have hval : ∀ i, i < xs.length → ∃ n, (xs.getD i []).getD 0 .z = .int .u8 n ∧ vs i 0 = .int .u8 n := by
            intro i hi
            obtain ⟨n, hn⟩ := fitsAll_at (hfit i hi) 0 (.int .u8) rfl
            refine ⟨n, hn, ?_⟩
            have := hr i 0 hi (by simp)
            rw [hn] at this
            exact this.int_inv
          have hcell : ∀ i, i < xs.length → w.cell? ((⟨bb, off, none⟩ : Addr).add i) = some (vs i 0) := by
            intro i hi
            have := hc i 0 hi (by simp)
            simpa [Addr.add_lit] using this
          have hload := run_loadCells (P := P) w ⟨bb, off, none⟩ xs.length (fun i => vs i 0) hcell
          have hmap : (List.range xs.length).map (fun i => vs i 0) = (xs.map fun x => getI (x.getD 0 .z)).map (Value.int .u8) := by
            apply List.ext_getElem
            · simp
            · intro i hi1 hi2
              have hi : i < xs.length := by simpa using hi1
              obtain ⟨n, hn, hv⟩ := hval i hi
              simp only [List.getElem_map, List.getElem_range, hv]
              have hg : xs.getD i [] = xs[i] := by simp [List.getD_eq_getElem?_getD, hi]
              rw [hg] at hn
              rw [hn]
              rfl
          rw [hmap] at hload
          rw [run_bytesToString w _ _ _ _ hload, foldl_push]
          simp [strOf, List.map_map, Function.comp_def]
      · cases h
    · cases h
  · cases h

end Go.Proofs.EN
