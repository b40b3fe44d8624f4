/- Contracts of functions of this program, by the evaluator EN; part EN11. No conditions but those that each theorem states. -/
import Derived.Test.YtekcghhacpllaaaGreatDoorEc
/- Stores. -/
namespace Go.Proofs.EN
open Go
set_option linter.unusedVariables false
set_option linter.unusedSimpArgs false
variable {tt : TypeId → Option TI} {P : Program} {c : Ctx} {w : World} {g : Gh} {os : List Ob} {S : Nat → Prop}

theorem storeRow_sound (hT : TTok P tt) {E : Env} (hE : E.B.tt = tt) {T : TypeId} {ti : TI} (hti : tt T = some ti) {nt : Nat} {a : Act} {s : St} {o i off : Nat} {vx vv : Value} {cv : C} {md : Md} {Kv : St → R} {no : R} (hs : RepSt tt c w g nt a s)
    (hx : RepC tt w (Now c w g s.objs.length) g s.objs vx (.rp o i off)) (hv : RepC tt w (Now c w g s.objs.length) g s.objs vv cv) (hl : (cellsC cv).length = ti.cells.length) (hone : (cellsC cv).all C.one = true) (h0 : 0 < ti.cells.length)
    (h : storeRow E ti.cells o i off (cellsC cv) md s Kv no) :
    no ∨ ∃ w' s' g', (Instr.storeAt T vx vv).run P w = .ok () w' ∧ RepSt tt c w' g' nt a s' ∧ Stp c w g s.objs w' g' s'.objs ∧ Kv s' := by
  unfold storeRow at h
  rw [hE] at h
  split at h
  · rename_i ds os hab
    right
    obtain ⟨hcsz, hcr⟩ := cells_rep hv hone
    obtain ⟨g1, ψ, hs1, st1, hdl, _, habd, _, _⟩ := absorbs_sound (vs := vv.cells.toList) hs hab (by simpa using hcsz) (fun j hj => by
      have := (hcr j hj).1
      simpa [List.getD_eq_getElem?_getD, Array.getD_eq_getD_getElem?] using this)
    split at h
    · rename_i T' md0 ver xs ho
      have ho' := getD_some ho (by simp)
      split at h
      · rename_i ti' hti'
        obtain ⟨hc1, hix, hfin0⟩ := bif_some h
        have hfin : Kv ⟨s.tmps, os.set o (.row T' md (bif hasL ti.cells then ver + 1 else ver) (xs.set i (setRun (xs.getD i []) off ds)))⟩ := by
          cases hq : hasL ti.cells <;> simp only [hq, cond_true, cond_false] at hfin0 ⊢ <;> exact hfin0
        simp only [Bool.and_eq_true] at hc1
        obtain ⟨hle, hks⟩ := hc1
        have hks := ksBeq_eq hks
        obtain ⟨g2, hs2, st2, e1, e2, e3, e4⟩ := weak_step hs1 ho' hle
        have hx1 := st1.rep hx
        have hrow : (os.set o (.row T' md ver xs))[o]? = some (.row T' md ver xs) := List.getElem?_set_self (ob_lt ho')
        cases hx1 with
        | rp _ _ _ b p hol hrp =>
          obtain ⟨_, ti2, o2, m, cap, ht2, hη, rfl⟩ := hrp xs.length T' (.inl ⟨md0, ver, xs, ho', rfl⟩)
          rw [hti'] at ht2; cases ht2
          have hη2 : g2.η[o]? = some (.slice (some ⟨b, o2, none⟩) m cap) := by rw [e1]; exact hη
          have ho2 : o2 = 0 ∧ m = xs.length := by
            obtain ⟨a0, cap0, ti3, hv0, ht3, hd, hk, hfit, hlc, hbg, hc⟩ := hs2.inv.ob o _ _ hrow hη2
            simp only [Value.slice.injEq] at hv0
            obtain ⟨rfl, rfl, rfl⟩ := hv0
            obtain ⟨b', _, _, hb', _⟩ := hc (by omega)
            cases hb'
            exact ⟨rfl, rfl⟩
          obtain ⟨rfl, rfl⟩ := ho2
          have hab2 : Absd tt c w md g2 s.objs (os.set o (.row T' md ver xs)) ti.cells vv.cells.toList ds ψ := by
            refine ⟨habd.fit, fun j hj => (habd.rep j hj).mono st2.now (fun b hb => ⟨hb, rfl⟩), fun j x hj hx => ?_, habd.dj⟩
            obtain ⟨k, h1, h2, h3⟩ := habd.dead j x hj hx
            have hko : k ≠ o := by rintro rfl; rw [ho'] at h2; cases h2
            exact ⟨k, h1, by rw [List.getElem?_set_ne (Ne.symm hko)]; exact h2, (e3 k x hko).2 h3⟩
          obtain ⟨w', g', hrun, hs3, st3⟩ := write_row (P := P) hs2 (o := o) (i := i) (off := off) hrow (by simp) (hs2.inv.ob o _ _ hrow hη2) (.inl ⟨md, ver, xs, hrow, rfl⟩) (.inl ⟨md, xs, hrow, rfl⟩) hti' hix (ks := ti.cells) h0 hks (us := vv.cells) (ds := ds) (by omega) hdl (fun j hj => (hcr j (by omega)).2) hab2
            (ver' := bif hasL ti.cells then ver + 1 else ver) (fun h => by rw [h]; rfl) (fun h => by rw [h]; rfl) hη2 (fun p q h => h.elim)
          obtain ⟨info, hi⟩ := hT T ti hti
          refine ⟨w', _, g', ?_, hs3, (st1.trans st2).trans st3, ?_⟩
          · simp only [Instr.storeAt, Instr.sureAddr, Sem.run_bind, Sem.run_pure, Result.andThen_ok]
            rw [Nat.zero_add]
            exact hrun hi rfl rfl
          · simpa [List.set_set] using hfin
      · cases h
    · cases h
  · exact .inl h

theorem evalStore_sound (hT : TTok P tt) {E : Env} (hE : E.B.tt = tt) {T : TypeId} {nt : Nat} {a : Act} {s : St} {vx vv : Value} {cx cv : C} {Kv : St → R} (hs : RepSt tt c w g nt a s)
    (h : evalStore E T cx cv s Kv) (hx : RepC tt w (Now c w g s.objs.length) g s.objs vx cx) (hv : RepC tt w (Now c w g s.objs.length) g s.objs vv cv) :
    ∃ w' s' g', (Instr.storeAt T vx vv).run P w = .ok () w' ∧ RepSt tt c w' g' nt a s' ∧ Stp c w g s.objs w' g' s'.objs ∧ Kv s' := by
  unfold evalStore at h
  rw [hE] at h
  split at h
  · cases h
  rename_i ti hti
  split at h
  · rename_i o off
    split at h
    · rename_i cs hcs
      obtain ⟨hcond, hfin⟩ := bif_some h
      clear h
      simp only [Bool.and_eq_true] at hcond
      obtain ⟨⟨hl, hle⟩, hone⟩ := hcond
      have hl := Nat.eq_of_beq_eq_true hl
      have hle := Nat.le_of_ble_eq_true hle
      have hob := getD_some hcs (by simp)
      obtain ⟨info, hi⟩ := hT T ti hti
      obtain ⟨hcsz, hcr⟩ := cells_rep hv hone
      generalize hp : promCs tt ti.cells (cellsC cv) s.objs = p at hfin
      obtain ⟨vs, os⟩ := p
      simp only at hfin
      obtain ⟨g1, hs1, st1, hvl, hvr, hv1⟩ := promCs_sound (vs := vv.cells.toList) hs hp (by simpa using hcsz) (fun j hj => by
        have := (hcr j hj).1
        simpa [List.getD_eq_getElem?_getD, Array.getD_eq_getD_getElem?] using this) hone
      have hx1 := st1.rep hx
      have hob1 : os[o]? = some (.box cs) := by
        have : ∀ (ks : List CK) (xs : List C) (os : List Ob) (o : Nat) (ob : Ob), os[o]? = some ob → (promCs tt ks xs os).2[o]? = some ob := by
          intro ks
          induction ks with
          | nil => intro xs os o ob h; exact h
          | cons k ks ih =>
            intro xs os o ob h
            cases xs with
            | nil => exact h
            | cons x xs =>
              have h2 : (promC tt k x os).2[o]? = some ob := by
                unfold promC
                split
                · cases rowT tt _ with
                  | false => exact h
                  | true => simp only [cond_true]; rw [List.getElem?_append_left (ob_lt h)]; exact h
                · exact h
              exact ih xs _ o ob h2
        have := this ti.cells (cellsC cv) s.objs o _ hob
        rw [hp] at this
        exact this
      cases hx1 with
      | ref _ _ b hη =>
        obtain ⟨b', cur, U, hb', hh, hsz, hr, h1, hφ⟩ := hs1.inv.ob o _ _ hob1 hη
        simp only [Value.pointer.injEq, Option.some.injEq, Addr.mk.injEq, and_true] at hb'
        subst hb'
        have hv1' : ∀ u ∈ vv.cells.toList, u.oneCell' = true := by
          intro u hu
          obtain ⟨i, hi', rfl⟩ := List.getElem_of_mem hu
          have hi2 : i < vv.cells.size := by simpa using hi'
          have := (hcr i (by omega)).2
          simpa [Array.getD, hi2] using this
        have hfit : off + vv.cells.size ≤ cur.size := by omega
        have hset := setRow_box hs1 (cs' := setRun cs off vs) (cur' := lay cur off vv.cells) hob1 hη hφ hh (by rw [lay_size _ _ _ hfit, setRun_length, hsz]) (fun i hi' => by
          rw [setRun_length] at hi'
          rw [lay_getD _ _ _ hfit, setRun_getD .undef vs cs off i (by omega), hcsz, hvl]
          by_cases h2 : off ≤ i ∧ i < off + (cellsC cv).length
          · rw [if_pos h2, if_pos h2]
            have := hvr (i - off) (by omega)
            simpa [List.getD_eq_getElem?_getD, Array.getD_eq_getD_getElem?] using this
          · rw [if_neg h2, if_neg h2]
            exact hr i hi') (fun i hi' => by
          rw [setRun_length] at hi'
          rw [lay_getD _ _ _ hfit, hcsz]
          by_cases h2 : off ≤ i ∧ i < off + (cellsC cv).length
          · rw [if_pos h2]
            exact (hcr _ (by omega)).2
          · rw [if_neg h2]
            exact h1 i hi')
        refine ⟨_, _, _, ?_, hset.1, st1.trans hset.2, hfin⟩
        simp only [Instr.storeAt, Instr.sureAddr, Sem.run_bind, Sem.run_pure, Result.andThen_ok]
        exact run_storeVar hi hh (by omega) hfit hv1'
    · cases h
  · rename_i o i off
    split at h
    · rename_i T' md ver xs ho
      obtain ⟨hc1, hfin⟩ := bif_some h
      clear h
      simp only [Bool.and_eq_true] at hc1
      obtain ⟨hl, hone, h0⟩ := hc1
      have hl := Nat.eq_of_beq_eq_true hl
      have h0 := blt_lt h0
      rcases storeRow_sound hT hE hti hs hx hv hl hone h0 hfin with hfin | h
      · rcases storeRow_sound hT hE hti hs hx hv hl hone h0 hfin with hfin | h
        · rcases storeRow_sound hT hE hti hs hx hv hl hone h0 hfin with hfin | h
          · cases hfin
          · exact h
        · exact h
      · exact h
    · rename_i T' md ver xs i0 off0 ho
      split at h
      · rename_i m
        split at h
        · rename_i e m' ver2 ys hm
          obtain ⟨hc1, h2⟩ := bif_some h
          clear h
          split at h2
          · rename_i ti' hti'
            obtain ⟨hkk, rfl, hfin⟩ := bif_some h2
            clear h2
            simp only [Bool.and_eq_true, Bool.not_eq_true'] at hc1
            obtain ⟨hoff, hks, hmd, hmo⟩ := hc1
            have hoff := Nat.eq_of_beq_eq_true hoff
            subst hoff
            have hks := ksBeq_eq hks
            have hkk := ksBeq_eq hkk
            have hmd := Md.beq_eq hmd
            subst hmd
            have hmo : m ≠ o := fun e => by rw [e, show Nat.beq o o = true from Nat.beq_refl o] at hmo; cases hmo
            have ho' := getD_some ho (by simp)
            have hm' := getD_some hm (by simp)
            obtain ⟨hηm, hXm⟩ := hs.inv.handle hm' hv
            have hs1 := hs.die hm'
            have hc1 := Chg.die hs.inv hm'
            have hrow : (s.objs.set m .dead)[o]? = some (.hole T' m'.up ver xs i off) := by rw [List.getElem?_set_ne hmo]; exact ho'
            cases hx with
            | rp _ _ _ b p hol hrp =>
              obtain ⟨hix, ti2, o2, n2, cap, ht2, hη, rfl⟩ := hrp xs.length T' (.inr (.inl ⟨_, ver, xs, i, off, ho', rfl⟩))
              rw [hti'] at ht2; cases ht2
              have hX2 := hs1.inv.ob o _ _ hrow hη
              have ho2 : o2 = 0 ∧ n2 = xs.length := by
                obtain ⟨a0, cap0, ti3, hv0, ht3, hd, hk, hfit, hlc, hbg, hc⟩ := hX2
                simp only [Value.slice.injEq] at hv0
                obtain ⟨rfl, rfl, rfl⟩ := hv0
                obtain ⟨b', _, _, hb', _⟩ := hc (by omega)
                cases hb'
                exact ⟨rfl, rfl⟩
              obtain ⟨rfl, rfl⟩ := ho2
              obtain ⟨av, capv, rfl, hbv, hlv, _, _⟩ := hXm.cells
              obtain ⟨w', g', hrun, hs3, st3⟩ := write_row (P := P) hs1 (o := o) (i := i) (off := off) hrow (by simp) (sk := fun p q => p = i ∧ q = off) hX2 (.inr (.inl ⟨_, ver, xs, i, off, hrow, rfl⟩)) (.inr (.inl ⟨_, xs, i, off, hrow, rfl⟩)) hti' hix (ks := [.list e]) (by simp) hkk
                (us := #[.slice av ys.length capv]) (ds := [.list e ys]) (ψ := fun _ x => g.φ m x) (os0 := s.objs) rfl rfl (fun j hj => by
                  have : j = 0 := by simpa using hj
                  subst this; rfl) ⟨⟨⟨ys, rfl⟩, trivial⟩, fun j hj => by
                  have : j = 0 := by simpa using hj
                  subst this
                  exact hXm.repW.mono (fun b hb => ⟨(hc1.now hs.inv b hb).1, rfl⟩) (fun b hb => ⟨hb, rfl⟩), fun j x hj hx => ⟨m, ⟨_, hm', by simp⟩, List.getElem?_set_self (ob_lt hm'), hx⟩, fun j j' x hj hj' _ _ => by
                  have h1 : j < 1 := hj
                  have h2 : j' < 1 := hj'
                  omega⟩ (ver' := ver + 1) (fun _ => rfl) (fun h => by cases h) hη (fun p q h => ⟨h.1, by omega, by simp; omega⟩)
              obtain ⟨info, hi⟩ := hT T ti hti
              refine ⟨w', _, g', ?_, hs3, (hc1.stp hs.inv).trans st3, ?_⟩
              · simp only [Instr.storeAt, Instr.sureAddr, Sem.run_bind, Sem.run_pure, Result.andThen_ok]
                rw [Nat.zero_add]
                exact hrun hi (by rw [hks]) rfl
              · simpa [setRun] using hfin
          · cases h2
        · cases h
      · cases h
    · cases h
  · cases h

end Go.Proofs.EN
