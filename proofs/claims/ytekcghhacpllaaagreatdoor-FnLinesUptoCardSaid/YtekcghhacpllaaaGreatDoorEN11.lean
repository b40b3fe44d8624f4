/- Contracts of functions of this program, by the evaluator EN. No conditions but those that each theorem states. -/
import Derived.Test.YtekcghhacpllaaaGreatDoorEN9
/- Stores. -/
namespace Go.Proofs.EN
open Go
set_option linter.unusedVariables false
set_option linter.unusedSimpArgs false
variable {tt : TypeId → Option TI} {P : Program} {c : Ctx} {w : World} {g : Gh} {os : List Ob} {S : Nat → Prop}

theorem storeRow_sound (hT : TTok P tt) {E : Env} (hE : E.B.tt = tt) {T : TypeId} {ti : TI} (hti : tt T = some ti) {nt : Nat} {a : Act} {s : St} {o i off : Nat} {vx vv : Value} {cv : C} {md : Md} {Kv : St → R} {no : R} (hs : RepSt tt c w g nt a s)
    (hx : RepC tt w (Now c w g s.objs.length) g s.objs vx (.rp o i off)) (hv : RepC tt w (Now c w g s.objs.length) g s.objs vv cv) (hl : (cellsC cv).length = ti.cells.length) (hone : (cellsC cv).all C.one = true) (h0 : 0 < ti.cells.length)
    (h : storeRow E ti.cells o i off (cellsC cv) md s Kv no) :
    no ∨ ∃ w' s' g', (Instr.storeAt T vx vv).run P w = .ok () w' ∧ RepSt tt c w' g' nt a s' ∧ Stp c w g s.objs w' g' s'.objs ∧ Kv s' := by
  unfold storeRow at h
  rw [hE] at h
  split at h
  · rename_i ds os hab
    right
    obtain ⟨hcsz, hcr⟩ := cells_rep hv hone
    obtain ⟨g1, ψ, hs1, st1, hdl, _, habd, _, _⟩ := absorbs_sound (vs := vv.cells.toList) hs hab (by simpa using hcsz) (fun j hj => by
      have := (hcr j hj).1
      simpa [List.getD_eq_getElem?_getD, Array.getD_eq_getD_getElem?] using this)
    split at h
    · rename_i T' md0 ver xs ho
      have ho' := getD_some ho (by simp)
      split at h
      · rename_i ti' hti'
        obtain ⟨hc1, hix, hfin0⟩ := bif_some h
        have hfin : Kv ⟨s.tmps, os.set o (.row T' md (bif hasL ti.cells then ver + 1 else ver) (xs.set i (setRun (xs.getD i []) off ds)))⟩ := by
          cases hq : hasL ti.cells <;> simp only [hq, cond_true, cond_false] at hfin0 ⊢ <;> exact hfin0
        simp only [Bool.and_eq_true] at hc1
        obtain ⟨hle, hks⟩ := hc1
        have hks := ksBeq_eq hks
        obtain ⟨g2, hs2, st2, e1, e2, e3, e4⟩ := weak_step hs1 ho' hle
        have hx1 := st1.rep hx
        have hrow : (os.set o (.row T' md ver xs))[o]? = some (.row T' md ver xs) := List.getElem?_set_self (ob_lt ho')
        cases hx1 with
        | rp _ _ _ b p hol hrp =>
          obtain ⟨_, ti2, o2, m, cap, ht2, hη, rfl⟩ := hrp xs.length T' (.inl ⟨md0, ver, xs, ho', rfl⟩)
          rw [hti'] at ht2; cases ht2
          have hη2 : g2.η[o]? = some (.slice (some ⟨b, o2, none⟩) m cap) := by rw [e1]; exact hη
          have ho2 : o2 = 0 ∧ m = xs.length := by
            obtain ⟨a0, cap0, ti3, hv0, ht3, hd, hk, hfit, hlc, hbg, hc⟩ := hs2.inv.ob o _ _ hrow hη2
            simp only [Value.slice.injEq] at hv0
            obtain ⟨rfl, rfl, rfl⟩ := hv0
            obtain ⟨b', _, _, hb', _⟩ := hc (by omega)
            cases hb'
            exact ⟨rfl, rfl⟩
          obtain ⟨rfl, rfl⟩ := ho2
          have hab2 : Absd tt c w md g2 s.objs (os.set o (.row T' md ver xs)) ti.cells vv.cells.toList ds ψ := by
            refine ⟨habd.fit, fun j hj => (habd.rep j hj).mono st2.now (fun b hb => ⟨hb, rfl⟩), fun j x hj hx => ?_, habd.dj⟩
            obtain ⟨k, h1, h2, h3⟩ := habd.dead j x hj hx
            have hko : k ≠ o := by rintro rfl; rw [ho'] at h2; cases h2
            exact ⟨k, h1, by rw [List.getElem?_set_ne (Ne.symm hko)]; exact h2, (e3 k x hko).2 h3⟩
          obtain ⟨w', g', hrun, hs3, st3⟩ := write_row (P := P) hs2 (o := o) (i := i) (off := off) hrow (by simp) (hs2.inv.ob o _ _ hrow hη2) (.inl ⟨md, ver, xs, hrow, rfl⟩) (.inl ⟨md, xs, hrow, rfl⟩) hti' hix (ks := ti.cells) h0 hks (us := vv.cells) (ds := ds) (by omega) hdl (fun j hj => (hcr j (by omega)).2) hab2
            (ver' := bif hasL ti.cells then ver + 1 else ver) (fun h => by rw [h]; rfl) (fun h => by rw [h]; rfl) hη2 (fun p q h => h.elim)
          obtain ⟨info, hi⟩ := hT T ti hti
          refine ⟨w', _, g', ?_, hs3, (st1.trans st2).trans st3, ?_⟩
          · simp only [Instr.storeAt, Instr.sureAddr, Sem.run_bind, Sem.run_pure, Result.andThen_ok]
            rw [Nat.zero_add]
            exact hrun hi rfl rfl
          · simpa [List.set_set] using hfin
      · cases h
    · cases h
  · exact .inl h

theorem evalStore_sound (hT : TTok P tt) {E : Env} (hE : E.B.tt = tt) {T : TypeId} {nt : Nat} {a : Act} {s : St} {vx vv : Value} {cx cv : C} {Kv : St → R} (hs : RepSt tt c w g nt a s)
    (h : evalStore E T cx cv s Kv) (hx : RepC tt w (Now c w g s.objs.length) g s.objs vx cx) (hv : RepC tt w (Now c w g s.objs.length) g s.objs vv cv) :
    ∃ w' s' g', (Instr.storeAt T vx vv).run P w = .ok () w' ∧ RepSt tt c w' g' nt a s' ∧ Stp c w g s.objs w' g' s'.objs ∧ Kv s' := by
  unfold evalStore at h
  rw [hE] at h
  split at h
  · cases h
  rename_i ti hti
  split at h
  · rename_i o off
    split at h
    · rename_i cs hcs
      obtain ⟨hcond, hfin⟩ := bif_some h
      clear h
      simp only [Bool.and_eq_true] at hcond
      obtain ⟨⟨hl, hle⟩, hone⟩ := hcond
      have hl := Nat.eq_of_beq_eq_true hl
      have hle := Nat.le_of_ble_eq_true hle
      have hob := getD_some hcs (by simp)
      obtain ⟨info, hi⟩ := hT T ti hti
      obtain ⟨hcsz, hcr⟩ := cells_rep hv hone
      generalize hp : promCs tt ti.cells (cellsC cv) s.objs = p at hfin
      obtain ⟨vs, os⟩ := p
      simp only at hfin
      obtain ⟨g1, hs1, st1, hvl, hvr, hv1⟩ := promCs_sound (vs := vv.cells.toList) hs hp (by simpa using hcsz) (fun j hj => by
        have := (hcr j hj).1
        simpa [List.getD_eq_getElem?_getD, Array.getD_eq_getD_getElem?] using this) hone
      have hx1 := st1.rep hx
      have hob1 : os[o]? = some (.box cs) := by
        have : ∀ (ks : List CK) (xs : List C) (os : List Ob) (o : Nat) (ob : Ob), os[o]? = some ob → (promCs tt ks xs os).2[o]? = some ob := by
          intro ks
          induction ks with
          | nil => intro xs os o ob h; exact h
          | cons k ks ih =>
            intro xs os o ob h
            cases xs with
            | nil => exact h
            | cons x xs =>
              have h2 : (promC tt k x os).2[o]? = some ob := by
                unfold promC
                split
                · cases rowT tt _ with
                  | false => exact h
                  | true => simp only [cond_true]; rw [List.getElem?_append_left (ob_lt h)]; exact h
                · exact h
              exact ih xs _ o ob h2
        have := this ti.cells (cellsC cv) s.objs o _ hob
        rw [hp] at this
        exact this
      cases hx1 with
      | ref _ _ b hη =>
        obtain ⟨b', cur, U, hb', hh, hsz, hr, h1, hφ⟩ := hs1.inv.ob o _ _ hob1 hη
        simp only [Value.pointer.injEq, Option.some.injEq, Addr.mk.injEq, and_true] at hb'
        subst hb'
        have hv1' : ∀ u ∈ vv.cells.toList, u.oneCell' = true := by
          intro u hu
          obtain ⟨i, hi', rfl⟩ := List.getElem_of_mem hu
          have hi2 : i < vv.cells.size := by simpa using hi'
          have := (hcr i (by omega)).2
          simpa [Array.getD, hi2] using this
        have hfit : off + vv.cells.size ≤ cur.size := by omega
        have hset := setRow_box hs1 (cs' := setRun cs off vs) (cur' := lay cur off vv.cells) hob1 hη hφ hh (by rw [lay_size _ _ _ hfit, setRun_length, hsz]) (fun i hi' => by
          rw [setRun_length] at hi'
          rw [lay_getD _ _ _ hfit, setRun_getD .undef vs cs off i (by omega), hcsz, hvl]
          by_cases h2 : off ≤ i ∧ i < off + (cellsC cv).length
          · rw [if_pos h2, if_pos h2]
            have := hvr (i - off) (by omega)
            simpa [List.getD_eq_getElem?_getD, Array.getD_eq_getD_getElem?] using this
          · rw [if_neg h2, if_neg h2]
            exact hr i hi') (fun i hi' => by
          rw [setRun_length] at hi'
          rw [lay_getD _ _ _ hfit, hcsz]
          by_cases h2 : off ≤ i ∧ i < off + (cellsC cv).length
          · rw [if_pos h2]
            exact (hcr _ (by omega)).2
          · rw [if_neg h2]
            exact h1 i hi')
        refine ⟨_, _, _, ?_, hset.1, st1.trans hset.2, hfin⟩
        simp only [Instr.storeAt, Instr.sureAddr, Sem.run_bind, Sem.run_pure, Result.andThen_ok]
        exact run_storeVar hi hh (by omega) hfit hv1'
    · cases h
  · rename_i o i off
    split at h
    · rename_i T' md ver xs ho
      obtain ⟨hc1, hfin⟩ := bif_some h
      clear h
      simp only [Bool.and_eq_true] at hc1
      obtain ⟨hl, hone, h0⟩ := hc1
      have hl := Nat.eq_of_beq_eq_true hl
      have h0 := blt_lt h0
      rcases storeRow_sound hT hE hti hs hx hv hl hone h0 hfin with hfin | h
      · rcases storeRow_sound hT hE hti hs hx hv hl hone h0 hfin with hfin | h
        · rcases storeRow_sound hT hE hti hs hx hv hl hone h0 hfin with hfin | h
          · cases hfin
          · exact h
        · exact h
      · exact h
    · rename_i T' md ver xs i0 off0 ho
      split at h
      · rename_i m
        split at h
        · rename_i e m' ver2 ys hm
          obtain ⟨hc1, h2⟩ := bif_some h
          clear h
          split at h2
          · rename_i ti' hti'
            obtain ⟨hkk, rfl, hfin⟩ := bif_some h2
            clear h2
            simp only [Bool.and_eq_true, Bool.not_eq_true'] at hc1
            obtain ⟨hoff, hks, hmd, hmo⟩ := hc1
            have hoff := Nat.eq_of_beq_eq_true hoff
            subst hoff
            have hks := ksBeq_eq hks
            have hkk := ksBeq_eq hkk
            have hmd := Md.beq_eq hmd
            subst hmd
            have hmo : m ≠ o := fun e => by rw [e, show Nat.beq o o = true from Nat.beq_refl o] at hmo; cases hmo
            have ho' := getD_some ho (by simp)
            have hm' := getD_some hm (by simp)
            obtain ⟨hηm, hXm⟩ := hs.inv.handle hm' hv
            have hs1 := hs.die hm'
            have hc1 := Chg.die hs.inv hm'
            have hrow : (s.objs.set m .dead)[o]? = some (.hole T' m'.up ver xs i off) := by rw [List.getElem?_set_ne hmo]; exact ho'
            cases hx with
            | rp _ _ _ b p hol hrp =>
              obtain ⟨hix, ti2, o2, n2, cap, ht2, hη, rfl⟩ := hrp xs.length T' (.inr (.inl ⟨_, ver, xs, i, off, ho', rfl⟩))
              rw [hti'] at ht2; cases ht2
              have hX2 := hs1.inv.ob o _ _ hrow hη
              have ho2 : o2 = 0 ∧ n2 = xs.length := by
                obtain ⟨a0, cap0, ti3, hv0, ht3, hd, hk, hfit, hlc, hbg, hc⟩ := hX2
                simp only [Value.slice.injEq] at hv0
                obtain ⟨rfl, rfl, rfl⟩ := hv0
                obtain ⟨b', _, _, hb', _⟩ := hc (by omega)
                cases hb'
                exact ⟨rfl, rfl⟩
              obtain ⟨rfl, rfl⟩ := ho2
              obtain ⟨av, capv, rfl, hbv, hlv, _, _⟩ := hXm.cells
              obtain ⟨w', g', hrun, hs3, st3⟩ := write_row (P := P) hs1 (o := o) (i := i) (off := off) hrow (by simp) (sk := fun p q => p = i ∧ q = off) hX2 (.inr (.inl ⟨_, ver, xs, i, off, hrow, rfl⟩)) (.inr (.inl ⟨_, xs, i, off, hrow, rfl⟩)) hti' hix (ks := [.list e]) (by simp) hkk
                (us := #[.slice av ys.length capv]) (ds := [.list e ys]) (ψ := fun _ x => g.φ m x) (os0 := s.objs) rfl rfl (fun j hj => by
                  have : j = 0 := by simpa using hj
                  subst this; rfl) ⟨⟨⟨ys, rfl⟩, trivial⟩, fun j hj => by
                  have : j = 0 := by simpa using hj
                  subst this
                  exact hXm.repW.mono (fun b hb => ⟨(hc1.now hs.inv b hb).1, rfl⟩) (fun b hb => ⟨hb, rfl⟩), fun j x hj hx => ⟨m, ⟨_, hm', by simp⟩, List.getElem?_set_self (ob_lt hm'), hx⟩, fun j j' x hj hj' _ _ => by
                  have h1 : j < 1 := hj
                  have h2 : j' < 1 := hj'
                  omega⟩ (ver' := ver + 1) (fun _ => rfl) (fun h => by cases h) hη (fun p q h => ⟨h.1, by omega, by simp; omega⟩)
              obtain ⟨info, hi⟩ := hT T ti hti
              refine ⟨w', _, g', ?_, hs3, (hc1.stp hs.inv).trans st3, ?_⟩
              · simp only [Instr.storeAt, Instr.sureAddr, Sem.run_bind, Sem.run_pure, Result.andThen_ok]
                rw [Nat.zero_add]
                exact hrun hi (by rw [hks]) rfl
              · simpa [setRun] using hfin
          · cases h2
        · cases h
      · cases h
    · cases h
  · cases h

end Go.Proofs.EN
/- append: what it makes. -/
namespace Go.Proofs.EN
open Go
set_option linter.unusedVariables false
set_option linter.unusedSimpArgs false
variable {tt : TypeId → Option TI} {P : Program} {c : Ctx} {w : World} {g : Gh} {os : List Ob} {S : Nat → Prop}

/-! ### The run of append -/
theorem run_app_same {t ty e : TypeId} {i : TypeInfo} (ht : P.underlying t = some (.slice e)) (hi : P.info? e = some i) (a ay : Option Addr) (n cap cy : Nat) (h : n ≤ cap) :
    (Builtin.append_ #[t, t] ty #[.slice a n cap, .slice ay 0 cy]).run P w = .ok (.slice a n cap) w := by
  cases ay with
  | none => cases a <;> simp [Builtin.append_, run_underlying ht, sizeOf, typeInfo, hi, Builtin.lenOf, h, Builtin.firstCells, storeCells]
  | some ay => cases a <;> simp [Builtin.append_, run_underlying ht, sizeOf, typeInfo, hi, Builtin.lenOf, h, Builtin.firstCells, storeCells, loadCells, loadCellsFrom]

theorem run_app_grow {t ty e : TypeId} {i : TypeInfo} {z : Value} (ht : P.underlying t = some (.slice e)) (hi : P.info? e = some i) (hz : i.zero = some z) {k : Nat} (hk : i.size = k)
    {a : Option Addr} {n cap : Nat} {olds : List Value} (hlo : olds.length = n * k) (hn : 0 < n → ∃ b, a = some b ∧ ∀ j v, olds[j]? = some v → w.cell? (b.add j) = some v)
    {ay : Addr} {m cy : Nat} {news : List Value} (hln : news.length = m * k) (hnews : ∀ j v, news[j]? = some v → w.cell? (ay.add j) = some v) (hgrow : cap < n + m) (hcapn : a = none → cap = 0 ∧ n = 0) (h32 : n + m ≤ 4294967296) (hb : i.bytes ≤ 1024) :
    (Builtin.append_ #[t, t] ty #[.slice a n cap, .slice (some ay) m cy]).run P w =
      .ok (.slice (some ⟨w.heap.size, 0, none⟩) (n + m) (grownCap w (n + m) cap e)) (w.drew.alloc (.cells (olds ++ news ++ (Builtin.zeroCells z.cells (grownCap w (n + m) cap e - (n + m))).toList).toArray e)) := by
  subst hk
  have hfit : Builtin.nextslicecap (n + m) cap * i.bytes ≤ 281474976710656 := by
    refine growslice_fits hgrow ?_
    calc (n + m) * i.bytes ≤ 4294967296 * 1024 := Nat.mul_le_mul h32 hb
      _ ≤ 140737488355328 := by decide
  cases a with
  | none =>
    obtain ⟨rfl, rfl⟩ := hcapn rfl
    have ho : olds = [] := by cases olds with | nil => rfl | cons _ _ => simp at hlo
    subst ho
    have := run_append_nil (P := P) w t ty e i z ht hi hz ay m cy news hln hnews (by omega) (by omega) (by
      calc m * i.bytes ≤ 4294967296 * 1024 := Nat.mul_le_mul (by omega) hb
        _ ≤ 281474976710656 := by decide)
    rw [this]
    congr 1
    · simp
    · congr 2
      · apply Array.ext'
        simp
  | some b =>
    have := run_append_grow (P := P) w t ty e i z ht hi hz b n cap olds hlo (fun j v hj => by
      have h0 : 0 < n := by
        rcases Nat.eq_zero_or_pos n with h0 | h0
        · subst h0; have := (List.getElem?_eq_some_iff.1 hj).1; omega
        · exact h0
      obtain ⟨b', hb', hc⟩ := hn h0
      cases hb'
      exact hc j v hj) ay m cy news hln hnews hgrow (by omega) hfit
    rw [this]
    congr 1
    congr 2
    apply Array.ext'
    simp

def flat (vs : Nat → Nat → Value) (m k : Nat) : List Value := (List.range (m * k)).map fun p => vs (p / k) (p % k)
theorem flat_length (vs : Nat → Nat → Value) (m k : Nat) : (flat vs m k).length = m * k := by simp [flat]
theorem idx_div {i j k : Nat} (hj : j < k) : (i * k + j) / k = i := by
  rw [Nat.mul_comm, Nat.mul_add_div (by omega), Nat.div_eq_of_lt hj, Nat.add_zero]
theorem idx_mod {i j k : Nat} (hj : j < k) : (i * k + j) % k = j := by
  rw [Nat.mul_comm, Nat.mul_add_mod, Nat.mod_eq_of_lt hj]
theorem flat_getD {vs : Nat → Nat → Value} {m k i j : Nat} (hi : i < m) (hj : j < k) : (flat vs m k).getD (i * k + j) Go.undef = vs i j := by
  simp [flat, List.getD_eq_getElem?_getD, idx_lt hi hj, idx_div hj, idx_mod hj]
theorem flat_cells {vs : Nat → Nat → Value} {m k b off : Nat} (hc : ∀ i j, i < m → j < k → w.cell? ⟨b, off + (i * k + j), none⟩ = some (vs i j)) : ∀ p v, (flat vs m k)[p]? = some v → w.cell? ((⟨b, off, none⟩ : Addr).add p) = some v := by
  intro p v hv
  have hp : p < m * k := by have := (List.getElem?_eq_some_iff.1 hv).1; rwa [flat_length] at this
  have hk : 0 < k := by rcases Nat.eq_zero_or_pos k with h | h; · subst h; simp at hp
                        · exact h
  simp only [flat, List.getElem?_map, List.getElem?_range hp, Option.map_some, Option.some.injEq] at hv
  rw [Addr.add_lit, ← hv]
  have h1 : p / k < m := (Nat.div_lt_iff_lt_mul hk).2 hp
  have := hc (p / k) (p % k) h1 (Nat.mod_lt _ hk)
  rwa [Nat.mul_comm (p / k) k, Nat.div_add_mod] at this

theorem three_getD {A B Cc : List Value} {p : Nat} : (A ++ B ++ Cc).toArray.getD p Go.undef = if p < A.length then A.getD p Go.undef else if p < A.length + B.length then B.getD (p - A.length) Go.undef else Cc.getD (p - (A.length + B.length)) Go.undef := by
  simp only [Array.getD_eq_getD_getElem?, List.getElem?_toArray, List.getElem?_append, List.length_append, List.getD_eq_getElem?_getD]
  by_cases h1 : p < A.length
  · rw [if_pos (by omega), if_pos h1, if_pos h1]
  · by_cases h2 : p < A.length + B.length
    · rw [if_pos h2, if_neg h1, if_neg h1, if_pos h2]
    · rw [if_neg h2, if_neg h1, if_neg h2]


/-- Elements in memory, each with its blocks. -/
def Part (tt : TypeId → Option TI) (w : World) (S : Nat → Prop) (md : Md) (k : Nat) (xs : List (List D)) (a : Option Addr) (φs : Nat → Nat → Nat → Prop) : Prop :=
  0 < xs.length → ∃ (b off : Nat) (vs : Nat → Nat → Value), a = some ⟨b, off, none⟩ ∧ (∀ i j, i < xs.length → j < k → w.cell? ⟨b, off + (i * k + j), none⟩ = some (vs i j)) ∧
    ∀ i j, i < xs.length → j < k → RepW tt w S md (vs i j) ((xs.getD i []).getD j .z) (φs i j)
/-- Nobody's blocks, one cell's each. -/
structure Apart (k nx ny : Nat) (Ψ : Nat → Prop) (φx φy : Nat → Nat → Nat → Prop) : Prop where
  x : ∀ i j t, i < nx → j < k → φx i j t → Ψ t
  y : ∀ i j t, i < ny → j < k → φy i j t → Ψ t
  xx : ∀ i j i' j' t, i < nx → j < k → i' < nx → j' < k → φx i j t → φx i' j' t → i = i' ∧ j = j'
  yy : ∀ i j i' j' t, i < ny → j < k → i' < ny → j' < k → φy i j t → φy i' j' t → i = i' ∧ j = j'
  xy : ∀ i j i' j' t, i < nx → j < k → i' < ny → j' < k → φx i j t → φy i' j' t → False

theorem getD_app {xs ys : List (List D)} {p : Nat} : (xs ++ ys).getD p [] = if p < xs.length then xs.getD p [] else ys.getD (p - xs.length) [] := by
  simp only [List.getD_eq_getElem?_getD, List.getElem?_append]
  split <;> rfl

/-- A new row on a block: what was there and what came. -/
theorem row_of {w' : World} {S' : Nat → Prop} {e : TypeId} {ti : TI} (ht : tt e = some ti) (hd : dataKs ti.cells = true) (hk : 0 < ti.cells.length) {xs ys : List (List D)} {b cap : Nat} {arr : Array Value} {md : Md} {φx φy : Nat → Nat → Nat → Prop} {Ψ φ0 : Nat → Prop}
    (hh : w'.heap[b]? = some (.cells arr e (0, 0))) (hsz : arr.size = cap * ti.cells.length) (hcap : xs.length + ys.length ≤ cap) (hbg : xs.length + ys.length ≤ big)
    (hfx : ∀ i, i < xs.length → fitsAll ti.cells (xs.getD i [])) (hfy : ∀ i, i < ys.length → fitsAll ti.cells (ys.getD i [])) (ha : Apart ti.cells.length xs.length ys.length Ψ φx φy) (hφb : φ0 b) (hΨ0 : ∀ t, Ψ t → φ0 t)
    (hnb : (∀ i j t, i < xs.length → j < ti.cells.length → φx i j t → t ≠ b) ∧ ∀ i j t, i < ys.length → j < ti.cells.length → φy i j t → t ≠ b)
    (hrx : ∀ i j, i < xs.length → j < ti.cells.length → RepW tt w' S' md (arr.getD (i * ti.cells.length + j) Go.undef) ((xs.getD i []).getD j .z) (φx i j))
    (hry : ∀ i j, i < ys.length → j < ti.cells.length → RepW tt w' S' md (arr.getD ((xs.length + i) * ti.cells.length + j) Go.undef) ((ys.getD i []).getD j .z) (φy i j)) :
    RowX tt w' S' (fun _ _ => False) md (.slice (some ⟨b, 0, none⟩) (xs.length + ys.length) cap) e (xs ++ ys) φ0 (fun i j => arr.getD (i * ti.cells.length + j) Go.undef) := by
  have hl : (xs ++ ys).length = xs.length + ys.length := by simp
  refine ⟨_, cap, ti, by rw [hl], ht, hd, hk, fun i hi => ?_, by rw [hl]; exact hcap, by rw [hl]; exact hbg, fun _ => ⟨b, arr, fun i j => if i < xs.length then φx i j else φy (i - xs.length) j, rfl, hh, hsz, hφb, fun i j t hi hj _ ht' => ?_, fun i j i' j' t hi hj hi' hj' _ _ h1 h2 => ?_, fun i j hi hj _ => ?_, fun i j e' hi hj => ⟨rfl, ?_⟩⟩⟩
  · rw [hl] at hi
    rw [getD_app]
    split
    · exact hfx i (by omega)
    · exact hfy _ (by omega)
  · rw [hl] at hi
    by_cases h : i < xs.length
    · simp only [if_pos h] at ht'
      exact ⟨hΨ0 t (ha.x i j t h hj ht'), hnb.1 i j t h hj ht'⟩
    · simp only [if_neg h] at ht'
      exact ⟨hΨ0 t (ha.y _ j t (by omega) hj ht'), hnb.2 _ j t (by omega) hj ht'⟩
  · rw [hl] at hi hi'
    by_cases h : i < xs.length <;> by_cases h' : i' < xs.length
    · simp only [if_pos h] at h1
      simp only [if_pos h'] at h2
      exact ha.xx i j i' j' t h hj h' hj' h1 h2
    · simp only [if_pos h] at h1
      simp only [if_neg h'] at h2
      exact (ha.xy i j _ j' t h hj (by omega) hj' h1 h2).elim
    · simp only [if_neg h] at h1
      simp only [if_pos h'] at h2
      exact (ha.xy i' j' _ j t h' hj' (by omega) hj h2 h1).elim
    · simp only [if_neg h] at h1
      simp only [if_neg h'] at h2
      have := ha.yy _ j _ j' t (by omega) hj (by omega) hj' h1 h2
      exact ⟨by omega, this.2⟩
  · rw [hl] at hi
    rw [getD_app]
    by_cases h : i < xs.length
    · simp only [if_pos h]
      exact hrx i j h hj
    · simp only [if_neg h]
      have := hry (i - xs.length) j (by omega) hj
      rwa [show xs.length + (i - xs.length) = i by omega] at this
  · rw [hl] at hi
    have hjl : j < ti.cells.length := (List.getElem?_eq_some_iff.1 hj).1
    by_cases h : i < xs.length
    · exact (hrx i j h hjl).one
    · have := (hry (i - xs.length) j (by omega) hjl).one
      rwa [show xs.length + (i - xs.length) = i by omega] at this

/-- append, once all that it needs is known. -/
theorem append_core (hT : TTok P tt) {T U e : TypeId} {kst : List CK} {byt : Nat} {ti : TI} (hti : tt T = some ⟨.slice e, kst, byt⟩) (hte : tt e = some ti) (hd : dataKs ti.cells = true) (hk : 0 < ti.cells.length) (hb2 : ti.bytes ≤ 1024) {nt : Nat} {a : Act} {s : St} (hs : RepSt tt c w g nt a s)
    {xs ys : List (List D)} {ax ay : Option Addr} {capx capy : Nat} (hbg : xs.length + ys.length ≤ big) (hlex : xs.length ≤ capx) {md : Md} {Ψ : Nat → Prop} {φx φy : Nat → Nat → Nat → Prop} (hΨ : ∀ b, Ψ b → ∃ m, s.objs[m]? = some .dead ∧ g.φ m b)
    (hX : Part tt w (Now c w g s.objs.length) md ti.cells.length xs ax φx) (hY : Part tt w (Now c w g s.objs.length) md ti.cells.length ys ay φy) (hfx : ∀ i, i < xs.length → fitsAll ti.cells (xs.getD i [])) (hfy : ∀ i, i < ys.length → fitsAll ti.cells (ys.getD i []))
    (ha : Apart ti.cells.length xs.length ys.length Ψ φx φy) (hnone : ax = none → capx = 0 ∧ xs.length = 0)
    (hroom : xs.length + ys.length ≤ capx → capx = 0 ∨ ∃ b cur, ax = some ⟨b, 0, none⟩ ∧ w.heap[b]? = some (.cells cur e (0, 0)) ∧ cur.size = capx * ti.cells.length ∧ Ψ b ∧
      (∀ i j t, i < xs.length → j < ti.cells.length → φx i j t → t ≠ b) ∧ ∀ i j t, i < ys.length → j < ti.cells.length → φy i j t → t ≠ b) :
    ∃ v w' g', (Builtin.append_ #[T, T] U #[.slice ax xs.length capx, .slice ay ys.length capy]).run P w = .ok v w' ∧ RepSt tt c w' g' nt a ⟨s.tmps, s.objs ++ [.row e md 0 (xs ++ ys)]⟩ ∧ Stp c w g s.objs w' g' (s.objs ++ [.row e md 0 (xs ++ ys)]) ∧
      RepC tt w' (Now c w' g' (s.objs ++ [Ob.row e md 0 (xs ++ ys)]).length) g' (s.objs ++ [.row e md 0 (xs ++ ys)]) v (.row s.objs.length) := by
  obtain ⟨info, hTi⟩ := hT T _ hti
  obtain ⟨infe, hTe⟩ := hT e _ hte
  have hu := hTi.uk.1
  obtain ⟨zv, hz, hzs, _⟩ := hTe.zero
  have hl := hs.inv.len
  have hΨlt : ∀ b, Ψ b → b < w.heap.size := fun b hb => by
    obtain ⟨m, h1, h2⟩ := hΨ b hb
    exact (hs.inv.own m b (ob_lt h1) h2).2
  -- a new object, once its row is known
  have fin : ∀ {v : Value} {w' : World} {ν0 : Nat → Nat → Value} {φ0 : Nat → Prop}, v.oneCell' = true → (Builtin.append_ #[T, T] U #[.slice ax xs.length capx, .slice ay ys.length capy]).run P w = .ok v w' → w.heap.size ≤ w'.heap.size → (∀ b, b < w.heap.size → ¬ Ψ b → w'.heap[b]? = w.heap[b]?) → w'.os = w.os → w'.tape = w.tape → w'.output = w.output →
      (∀ b, φ0 b → Ψ b ∨ (w.heap.size ≤ b ∧ b < w'.heap.size)) →
      ((∀ b, Now c w g s.objs.length b → Now c w' (g.new v ν0 φ0 Ψ) (s.objs ++ [Ob.row e md 0 (xs ++ ys)]).length b ∧ w'.heap[b]? = w.heap[b]?) → RowX tt w' (Now c w' (g.new v ν0 φ0 Ψ) (s.objs ++ [Ob.row e md 0 (xs ++ ys)]).length) (fun _ _ => False) md v e (xs ++ ys) φ0 ν0) →
      ∃ v w' g', (Builtin.append_ #[T, T] U #[.slice ax xs.length capx, .slice ay ys.length capy]).run P w = .ok v w' ∧ RepSt tt c w' g' nt a ⟨s.tmps, s.objs ++ [.row e md 0 (xs ++ ys)]⟩ ∧ Stp c w g s.objs w' g' (s.objs ++ [.row e md 0 (xs ++ ys)]) ∧
        RepC tt w' (Now c w' g' (s.objs ++ [Ob.row e md 0 (xs ++ ys)]).length) g' (s.objs ++ [.row e md 0 (xs ++ ys)]) v (.row s.objs.length) := by
    intro v w' ν0 φ0 h1 hrun h2 h3 h4 h5 h6 h7 h8
    have hc : Chg c w g s.objs w' (g.new v ν0 φ0 Ψ) (s.objs ++ [.row e md 0 (xs ++ ys)]) := .new hs.inv h2 h3 h4 h5 h6 hΨ h7
    refine ⟨v, w', _, hrun, hs.new h2 h3 h4 h5 h6 hΨ h7 ?_, hc.stp hs.inv, .row _ _ (by simp [Gh.new, hl]) (fun _ => by simp [Gh.new, hl]) h1⟩
    have e1 : (g.new v ν0 φ0 Ψ).φ s.objs.length = φ0 := by funext x; simp [Gh.new, hl]
    have e2 : (g.new v ν0 φ0 Ψ).ν s.objs.length = ν0 := by simp [Gh.new, hl]
    show RowX _ _ _ _ _ _ _ _ _ _
    rw [e1, e2]
    exact h8 (hc.now hs.inv)
  have hsz9 : ∀ n, (List.length (Builtin.zeroCells zv.cells n).toList) = n * ti.cells.length := fun n => by rw [Array.length_toList, size_zeroCells, hzs]
  by_cases hfits : xs.length + ys.length ≤ capx
  · rcases hroom hfits with h0 | ⟨b, cur, rfl, hh, hcsz, hΨb, hbx, hby⟩
    · -- no room, nothing comes
      subst h0
      have hx0 : xs = [] := List.eq_nil_of_length_eq_zero (by omega)
      have hy0 : ys = [] := List.eq_nil_of_length_eq_zero (by omega)
      subst hx0 hy0
      have hrun := run_app_same (P := P) (w := w) (ty := U) hu hTe.inf ax ay 0 0 capy (Nat.le_refl _)
      exact fin (ν0 := fun _ _ => Go.undef) (φ0 := fun _ => False) rfl hrun (Nat.le_refl _) (fun _ _ _ => rfl) rfl rfl rfl (fun b hb => hb.elim) (fun _ => ⟨ax, 0, ti, rfl, hte, hd, hk, fun i hi => by simp at hi, by simp, by simp, fun h => by omega⟩)
    · rcases Nat.eq_zero_or_pos ys.length with hy0 | hy0
      · -- nothing comes
        have hyn : ys = [] := List.eq_nil_of_length_eq_zero hy0
        subst hyn
        have hrun := run_app_same (P := P) (w := w) (ty := U) hu hTe.inf (some ⟨b, 0, none⟩) ay xs.length capx capy hlex
        refine fin (ν0 := fun i j => cur.getD (i * ti.cells.length + j) Go.undef) (φ0 := Ψ) rfl hrun (Nat.le_refl _) (fun _ _ _ => rfl) rfl rfl rfl (fun b hb => .inl hb) (fun hn => ?_)
        have := row_of (w' := w) (S' := Now c w (g.new (.slice (some ⟨b, 0, none⟩) xs.length capx) (fun i j => cur.getD (i * ti.cells.length + j) Go.undef) Ψ Ψ) (s.objs ++ [Ob.row e md 0 (xs ++ [])]).length) hte hd hk (ys := []) (cap := capx) (md := md) hh hcsz hfits hbg hfx (fun i hi => by simp at hi) ha hΨb (fun _ h => h) ⟨hbx, fun i j t hi => by simp at hi⟩ (fun i j hi hj => by
          obtain ⟨bx, offx, vsx, he, hcx, hrx⟩ := hX (by omega)
          cases he
          have hlt : i * ti.cells.length + j < cur.size := by rw [hcsz]; exact idx_lt (by omega) hj
          have hcell := hcx i j hi hj
          rw [Nat.zero_add, cell_of_row w b _ cur e (0, 0) hh] at hcell
          have hv : cur.getD (i * ti.cells.length + j) Go.undef = vsx i j := by simpa [Array.getD, hlt] using hcell
          rw [hv]
          exact (hrx i j hi hj).mono hn fun _ h => ⟨h, rfl⟩) (fun i j hi => by simp at hi)
        exact this
      · -- into its own block
        obtain ⟨by2, offy, vsy, rfl, hcy, hry⟩ := hY hy0
        have hroomk : (xs.length + ys.length) * ti.cells.length ≤ cur.size := by rw [hcsz]; exact Nat.mul_le_mul_right _ hfits
        rw [Nat.add_mul] at hroomk
        have hrun := run_append_room (P := P) w T U e infe hu hTe.inf b xs.length capx cur hh ⟨by2, offy, none⟩ ys.length capy (flat vsy ys.length ti.cells.length) (by rw [flat_length, hTe.size]) (flat_cells hcy) (by
          intro u hu'
          obtain ⟨p, hp, rfl⟩ := List.getElem_of_mem hu'
          rw [flat_length] at hp
          have h1 : p / ti.cells.length < ys.length := (Nat.div_lt_iff_lt_mul hk).2 hp
          have := (hry _ _ h1 (Nat.mod_lt p hk)).one
          simpa [flat] using this) hfits (by rw [flat_length, hTe.size]; exact hroomk)
        rw [hTe.size, flat_length] at hrun
        let arr : Array Value := (cur.toList.take (xs.length * ti.cells.length) ++ flat vsy ys.length ti.cells.length ++ cur.toList.drop (xs.length * ti.cells.length + ys.length * ti.cells.length)).toArray
        have harr : arr.size = capx * ti.cells.length := by
          simp only [arr, List.size_toArray, List.length_append, List.length_take, List.length_drop, Array.length_toList, flat_length]
          omega
        have hcl : cur.toList.length = cur.size := by simp
        have htake : ∀ p, p < xs.length * ti.cells.length → arr.getD p Go.undef = cur.getD p Go.undef := by
          intro p hp
          simp only [arr]
          rw [three_getD, List.length_take, hcl, if_pos (by omega)]
          simp [List.getD_eq_getElem?_getD, Array.getD_eq_getD_getElem?, List.getElem?_take, hp]
        have hmid : ∀ i j, i < ys.length → j < ti.cells.length → arr.getD ((xs.length + i) * ti.cells.length + j) Go.undef = vsy i j := by
          intro i j hi hj
          have h2 := idx_lt hi hj
          simp only [arr]
          rw [three_getD, List.length_take, hcl, flat_length, if_neg (by rw [Nat.add_mul]; omega), if_pos (by rw [Nat.add_mul]; omega)]
          rw [show (xs.length + i) * ti.cells.length + j - min (xs.length * ti.cells.length) cur.size = i * ti.cells.length + j by rw [Nat.add_mul]; omega, flat_getD hi hj]
        have hheap : ∀ k, k ≠ b → (w.setRow b arr).heap[k]? = w.heap[k]? := fun k hk' => setRow_other w b k arr hk'
        refine fin (ν0 := fun i j => arr.getD (i * ti.cells.length + j) Go.undef) (φ0 := Ψ) rfl hrun (by simp) (fun k _ hk' => hheap k (fun e => hk' (e ▸ hΨb))) rfl rfl rfl (fun b hb => .inl hb) (fun hn => ?_)
        refine row_of hte hd hk (md := md) (setRow_heap w b cur arr e (0, 0) hh) harr hfits hbg hfx hfy ha hΨb (fun _ h => h) ⟨hbx, hby⟩ (fun i j hi hj => ?_) (fun i j hi hj => ?_)
        · obtain ⟨bx, offx, vsx, he, hcx, hrx⟩ := hX (by omega)
          cases he
          have hlt : i * ti.cells.length + j < cur.size := by rw [hcsz]; exact idx_lt (by omega) hj
          have hcell := hcx i j hi hj
          rw [Nat.zero_add, cell_of_row w b _ cur e (0, 0) hh] at hcell
          have hv : cur.getD (i * ti.cells.length + j) Go.undef = vsx i j := by simpa [Array.getD, hlt] using hcell
          rw [htake _ (idx_lt hi hj), hv]
          exact (hrx i j hi hj).mono hn fun t h => ⟨h, hheap t (hbx i j t hi hj h)⟩
        · rw [hmid i j hi hj]
          exact (hry i j hi hj).mono hn fun t h => ⟨h, hheap t (hby i j t hi hj h)⟩
  · -- a new block
    have hgrow : capx < xs.length + ys.length := by omega
    have hy0 : 0 < ys.length := by omega
    obtain ⟨by2, offy, vsy, rfl, hcy, hry⟩ := hY hy0
    have olds : ∃ vsx : Nat → Nat → Value, (0 < xs.length → ∃ b, ax = some b ∧ ∀ j v, (flat vsx xs.length ti.cells.length)[j]? = some v → w.cell? (b.add j) = some v) ∧
        ∀ i j, i < xs.length → j < ti.cells.length → RepW tt w (Now c w g s.objs.length) md (vsx i j) ((xs.getD i []).getD j .z) (φx i j) := by
      rcases Nat.eq_zero_or_pos xs.length with h0 | h0
      · exact ⟨fun _ _ => Go.undef, fun h => by omega, fun i j hi => by omega⟩
      · obtain ⟨bx, offx, vsx, rfl, hcx, hrx⟩ := hX h0
        exact ⟨vsx, fun _ => ⟨_, rfl, flat_cells hcx⟩, hrx⟩
    obtain ⟨vsx, hox, hrx⟩ := olds
    have hrun := run_app_grow (P := P) (w := w) (ty := U) hu hTe.inf hz hTe.size (a := ax) (n := xs.length) (cap := capx) (olds := flat vsx xs.length ti.cells.length) (flat_length _ _ _) hox
      (ay := ⟨by2, offy, none⟩) (m := ys.length) (cy := capy) (news := flat vsy ys.length ti.cells.length) (flat_length _ _ _) (flat_cells hcy) hgrow hnone (by unfold big at hbg; exact hbg) (by rw [hTe.bytes]; exact hb2)
    have hge := grownCap_ge w (xs.length + ys.length) capx e
    have hold : ∀ b, b < w.heap.size → (w.drew.alloc (.cells (flat vsx xs.length ti.cells.length ++ flat vsy ys.length ti.cells.length ++ (Builtin.zeroCells zv.cells (grownCap w (xs.length + ys.length) capx e - (xs.length + ys.length))).toList).toArray e)).heap[b]? = w.heap[b]? := fun b hb => heap_alloc_old w.drew _ b hb
    refine fin (ν0 := fun i j => (flat vsx xs.length ti.cells.length ++ flat vsy ys.length ti.cells.length ++ (Builtin.zeroCells zv.cells (grownCap w (xs.length + ys.length) capx e - (xs.length + ys.length))).toList).toArray.getD (i * ti.cells.length + j) Go.undef) (φ0 := fun b => b = w.heap.size ∨ Ψ b) rfl hrun (by simp) (fun b hb _ => hold b hb) rfl rfl rfl (fun b hb => hb.elim (fun h => .inr (by subst h; simp)) .inl) (fun hn => ?_)
    refine row_of hte hd hk (md := md) (heap_alloc_new _ _) ?_ hge hbg hfx hfy ha (.inl rfl) (fun _ h => .inr h) ⟨fun i j t hi hj h e => ?_, fun i j t hi hj h e => ?_⟩ (fun i j hi hj => ?_) (fun i j hi hj => ?_)
    · simp only [List.size_toArray, List.length_append, flat_length, hsz9]
      rw [← Nat.add_mul, ← Nat.add_mul]
      congr 1
      omega
    · have := hΨlt t (ha.x i j t hi hj h)
      have e : t = w.heap.size := e
      omega
    · have := hΨlt t (ha.y i j t hi hj h)
      have e : t = w.heap.size := e
      omega
    · rw [three_getD, flat_length, if_pos (idx_lt hi hj), flat_getD hi hj]
      exact (hrx i j hi hj).mono hn fun t h => ⟨h, hold t (hΨlt t (ha.x i j t hi hj h))⟩
    · rw [three_getD, flat_length, flat_length]
      have h1 : ¬ (xs.length + i) * ti.cells.length + j < xs.length * ti.cells.length := by rw [Nat.add_mul]; omega
      have h2 : (xs.length + i) * ti.cells.length + j < xs.length * ti.cells.length + ys.length * ti.cells.length := by
        have := idx_lt hi hj
        rw [Nat.add_mul]; omega
      rw [if_neg h1, if_pos h2, show (xs.length + i) * ti.cells.length + j - xs.length * ti.cells.length = i * ti.cells.length + j by rw [Nat.add_mul]; omega, flat_getD hi hj]
      exact (hry i j hi hj).mono hn fun t h => ⟨h, hold t (hΨlt t (ha.y i j t hi hj h))⟩

end Go.Proofs.EN
