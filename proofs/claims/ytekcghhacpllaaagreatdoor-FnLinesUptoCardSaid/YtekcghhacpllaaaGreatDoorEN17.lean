/- Contracts of functions of this program, by the evaluator EN. No conditions but those that each theorem states. -/
import Derived.Test.YtekcghhacpllaaaGreatDoorEN16
/- Objects under new numbers. -/
namespace Go.Proofs.EN
open Go
set_option linter.unusedVariables false
set_option linter.unusedSimpArgs false
variable {tt : TypeId → Option TI} {P : Program} {c : Ctx} {w : World} {g : Gh} {os : List Ob} {S : Nat → Prop}

theorem renL_length (m : Nat → Option Nat) : ∀ cs : List C, (renL m cs).length = cs.length
  | [] => rfl
  | _ :: r => by simp [renL, renL_length m r]
theorem renL_getD (m : Nat → Option Nat) : ∀ (cs : List C) (i : Nat), (renL m cs).getD i .undef = (cs.getD i .undef).ren m
  | [], i => by simp [renL, C.ren]
  | c :: r, 0 => by simp [renL]
  | c :: r, i + 1 => by simpa [renL] using renL_getD m r i

/-- Later objects, under other numbers. -/
structure LaterM (m : Nat → Option Nat) (g : Gh) (os : List Ob) (g' : Gh) (os' : List Ob) : Prop where
  ext : ∀ (o j : Nat) v, m o = some j → g.η[o]? = some v → g'.η[j]? = some v
  dead : ∀ o j, m o = some j → o < g.η.length → os[o]? = some .dead → os'[j]? = some .dead
  r3 : ∀ o j T n, m o = some j → o < g.η.length → isR3 os' j T n → isR3 os o T n
  rh : ∀ o j T ver' n, m o = some j → o < g.η.length → isRH os' j T ver' n → ∃ ver, ver ≤ ver' ∧ isRH os o T ver n ∧ (ver' = ver → g'.ν j = g.ν o)

theorem RepC.ren {w w' : World} {S S' : Nat → Prop} {g g' : Gh} {os os' : List Ob} {m : Nat → Option Nat} (hS : ∀ b, S b → S' b ∧ w'.heap[b]? = w.heap[b]?) (hl : LaterM m g os g' os') {v : Value} {x : C} (h : RepC tt w S g os v x) : RepC tt w' S' g' os' v (x.ren m) := by
  have lt : ∀ {o j : Nat}, m o = some j → o < g.η.length → j < g'.η.length := fun {o j} hm ho => by
    have := hl.ext o j (g.η[o]'ho) hm (by simp [ho])
    exact (List.getElem?_eq_some_iff.1 this).1
  induction h with
  | undef v => exact .undef v
  | unw => exact .unw
  | d v x h => exact .d v x (h.mono hS)
  | cap0 a => exact .cap0 a
  | full a T xs n hn h => exact .full a T xs n hn (h.mono hS)
  | row v o ho h h1 =>
    simp only [C.ren]
    split
    · rename_i j hj
      exact .row v j (lt hj ho) (fun hx => hl.ext o j v hj (h fun hd => hx (hl.dead o j hj ho hd))) h1
    · exact .undef _
  | nst v e o ver i off ho h h1 =>
    simp only [C.ren]
    split
    · rename_i j hj
      refine .nst v e j ver i off (lt hj ho) (fun T ver' n hx => ?_) h1
      obtain ⟨ver1, h2, h3, h4⟩ := hl.rh o j T ver' n hj ho hx
      obtain ⟨h5, h6⟩ := h T ver1 n h3
      refine ⟨by omega, fun he => ?_⟩
      have h7 : ver1 = ver := by omega
      rw [h4 (by omega)]
      exact h6 h7
    · exact .undef _
  | nsl v e o ver i off lo n ho h h1 =>
    simp only [C.ren]
    split
    · rename_i j hj
      refine .nsl v e j ver i off lo n (lt hj ho) (fun T ver' m hx => ?_) h1
      obtain ⟨ver1, h2, h3, h4⟩ := hl.rh o j T ver' m hj ho hx
      obtain ⟨h5, h6⟩ := h T ver1 m h3
      refine ⟨by omega, fun he => ?_⟩
      have h7 : ver1 = ver := by omega
      rw [h4 (by omega)]
      exact h6 h7
    · exact .undef _
  | rp o i off b p ho h =>
    simp only [C.ren]
    split
    · rename_i j hj
      refine .rp j i off b p (lt hj ho) (fun n T hx => ?_)
      obtain ⟨h1, ti, o2, m, cap, h2, h3, h4⟩ := h n T (hl.r3 o j T n hj ho hx)
      exact ⟨h1, ti, o2, m, cap, h2, hl.ext _ _ _ hj h3, h4⟩
    · exact .undef _
  | np e o ver i off j f b p ho h =>
    simp only [C.ren]
    split
    · rename_i q hq
      refine .np e q ver i off j f b p (lt hq ho) (fun T ver' n hx => ?_)
      obtain ⟨ver1, h2, h3, h4⟩ := hl.rh o q T ver' n hq ho hx
      obtain ⟨h5, h6⟩ := h T ver1 n h3
      refine ⟨by omega, fun he => ?_⟩
      have h7 : ver1 = ver := by omega
      rw [h4 (by omega)]
      exact h6 h7
    · exact .undef _
  | ref o off b h =>
    simp only [C.ren]
    split
    · rename_i j hj
      exact .ref j off b (hl.ext _ _ _ hj h)
    · exact .undef _
  | lp ks ds off b o2 vs hSb hf hc hr => exact .lp ks ds off b o2 vs (hS b hSb).1 hf (fun j hj => (cell_same (hS b hSb).2).trans (hc j hj)) (fun j hj => (hr j hj).mono hS)
  | func f caps vs hl' _ ih => exact .func f _ vs (by rw [renL_length]; exact hl') (fun i hi => by rw [renL_getD]; exact ih i (by rwa [renL_length] at hi))
  | nilF => exact .nilF
  | zed v h => exact .zed v h
  | agg cs vs hl' _ ih => exact .agg _ vs (by rw [renL_length]; exact hl') (fun i hi => by rw [renL_getD]; exact ih i (by rwa [renL_length] at hi))
  | tuple cs vs hl' _ ih => exact .tuple _ vs (by rw [renL_length]; exact hl') (fun i hi => by rw [renL_getD]; exact ih i (by rwa [renL_length] at hi))
  | mp o b h =>
    simp only [C.ren]
    split
    · rename_i j hj
      exact .mp j b (hl.ext _ _ _ hj h)
    · exact .undef _
theorem RepC.ren' {S S' : Nat → Prop} {g g' : Gh} {os os' : List Ob} {m : Nat → Option Nat} (hS : ∀ b, S b → S' b) (hl : LaterM m g os g' os') {v : Value} {x : C} (h : RepC tt w S g os v x) : RepC tt w S' g' os' v (x.ren m) := h.ren (fun b hb => ⟨hS b hb, rfl⟩) hl
/-- What names no object. -/
theorem LaterM.none (g : Gh) (os : List Ob) (g' : Gh) (os' : List Ob) : LaterM (fun _ => none) g os g' os' := ⟨fun o j v h => by simp at h, fun o j h => by simp at h, fun o j T n h => by simp at h, fun o j T v n h => by simp at h⟩

theorem isR3_ren {m : Nat → Option Nat} {os' : List Ob} {o j : Nat} (h : os'[j]? = (os[o]?).map (Ob.ren m)) {T : TypeId} {n : Nat} : isR3 os' j T n ↔ isR3 os o T n := by
  unfold isR3
  rw [h]
  cases os[o]? with
  | none => simp
  | some ob => cases ob <;> simp [Ob.ren]
theorem isRH_ren {m : Nat → Option Nat} {os' : List Ob} {o j : Nat} (h : os'[j]? = (os[o]?).map (Ob.ren m)) {T : TypeId} {ver n : Nat} : isRH os' j T ver n ↔ isRH os o T ver n := by
  unfold isRH
  rw [h]
  cases os[o]? with
  | none => simp
  | some ob => cases ob <;> simp [Ob.ren]
theorem ren_dead {m : Nat → Option Nat} {os' : List Ob} {o j : Nat} (h : os'[j]? = (os[o]?).map (Ob.ren m)) : os'[j]? = some .dead ↔ os[o]? = some .dead := by
  rw [h]
  cases os[o]? with
  | none => simp
  | some ob => cases ob <;> simp [Ob.ren]
theorem RepO.ren {w : World} {S S' : Nat → Prop} {g g' : Gh} {os os' : List Ob} {m : Nat → Option Nat} (hS : ∀ b, S b → S' b) (hl : LaterM m g os g' os') {o j : Nat} (hν : g'.ν j = g.ν o) (hφ : g'.φ j = g.φ o) {ob : Ob} {v : Value} (h : RepO tt w S g os o ob v) :
    RepO tt w S' g' os' j (ob.ren m) v := by
  have hS' : ∀ b, S b → S' b ∧ w.heap[b]? = w.heap[b]? := fun b hb => ⟨hS b hb, rfl⟩
  cases ob with
  | dead => trivial
  | box cs =>
    obtain ⟨b, vs, T, rfl, hh, hsz, hr, h1, h2⟩ := h
    exact ⟨b, vs, T, rfl, hh, by rw [renL_length]; exact hsz, fun i hi => by rw [renL_getD]; exact (hr i (by rwa [renL_length] at hi)).ren hS' hl, fun i hi => h1 i (by rwa [renL_length] at hi), by rw [hφ]; exact h2⟩
  | row T md ver xs => simp only [Ob.ren, RepO, hν, hφ]; exact RowX.mono hS' (fun b hb => ⟨hb, rfl⟩) h
  | hole T md ver xs i k => simp only [Ob.ren, RepO, hν, hφ]; exact RowX.mono hS' (fun b hb => ⟨hb, rfl⟩) h
  | frz T xs => exact Rep.mono hS' h
  | map K V md ver es => simp only [Ob.ren, RepO, hν, hφ]; exact MapX.mono hS' (fun b hb => ⟨hb, rfl⟩) h
  | maph K V md ver es i => simp only [Ob.ren, RepO, hν, hφ]; exact MapX.mono hS' (fun b hb => ⟨hb, rfl⟩) h

/-! ### Lists of numbers -/
theorem hasN_iff {o : Nat} : ∀ {l : List Nat}, hasN o l = true ↔ o ∈ l
  | [] => by simp [hasN]
  | x :: xs => by
    simp only [hasN]
    cases h : Nat.beq x o with
    | true => have := Nat.eq_of_beq_eq_true h; subst this; simp
    | false =>
      have hne : x ≠ o := fun e => by subst e; simp at h
      simp [hasN_iff, Ne.symm hne]
theorem idxN_some {o : Nat} : ∀ {l : List Nat} {i j : Nat}, idxN o l i = some j → i ≤ j ∧ l[j - i]? = some o
  | [], i, j, h => by simp [idxN] at h
  | x :: xs, i, j, h => by
    simp only [idxN] at h
    cases hx : Nat.beq x o with
    | true =>
      have := Nat.eq_of_beq_eq_true hx
      subst this
      simp [hx] at h
      subst h
      simp
    | false =>
      simp only [hx, cond_false] at h
      obtain ⟨h1, h2⟩ := idxN_some h
      refine ⟨by omega, ?_⟩
      rw [show j - i = (j - (i + 1)) + 1 by omega]
      simpa using h2
theorem idxN_none {o : Nat} : ∀ {l : List Nat} {i : Nat}, idxN o l i = none → o ∉ l
  | [], i, h => by simp
  | x :: xs, i, h => by
    simp only [idxN] at h
    cases hx : Nat.beq x o with
    | true => simp [hx] at h
    | false =>
      simp only [hx, cond_false] at h
      have hne : x ≠ o := fun e => by subst e; simp at hx
      simp [Ne.symm hne, idxN_none h]
theorem nodup_inj : ∀ {l : List Nat}, nodup l = true → ∀ {i j o : Nat}, l[i]? = some o → l[j]? = some o → i = j
  | [], _, i, j, o, h, _ => by simp at h
  | x :: xs, hn, i, j, o, h1, h2 => by
    simp only [nodup, Bool.and_eq_true, Bool.not_eq_true'] at hn
    have hx : x ∉ xs := fun h => by rw [hasN_iff.2 h] at hn; simp at hn
    cases i with
    | zero =>
      cases j with
      | zero => rfl
      | succ j =>
        simp at h1 h2
        subst h1
        exact absurd (List.mem_of_getElem? h2) hx
    | succ i =>
      cases j with
      | zero =>
        simp at h1 h2
        subst h2
        exact absurd (List.mem_of_getElem? h1) hx
      | succ j => simp at h1 h2; rw [nodup_inj hn.2 h1 h2]
theorem ksBelow_lt {n : Nat} : ∀ {l : List Nat}, ksBelow n l = true → ∀ o ∈ l, o < n
  | [], _, o, h => by cases h
  | x :: xs, hb, o, h => by
    simp only [ksBelow, Bool.and_eq_true] at hb
    have h1 : x < n := by have := hb.1; simp [Nat.blt] at this; omega
    cases h with
    | head => exact h1
    | tail _ h => exact ksBelow_lt hb.2 o h
theorem prefN_get : ∀ {a b : List Nat}, prefN a b = true → ∀ (i o : Nat), a[i]? = some o → b[i]? = some o
  | [], _, _, i, o, h => by simp at h
  | _ :: _, [], h, _, _, _ => by simp [prefN] at h
  | x :: a, y :: b, h, i, o, hi => by
    simp only [prefN, Bool.and_eq_true] at h
    have := Nat.eq_of_beq_eq_true h.1
    subst this
    cases i with
    | zero => simpa using hi
    | succ i => simpa using prefN_get h.2 i o (by simpa using hi)
theorem upto_get : ∀ (n i j : Nat), j < n → (upto n i)[j]? = some (i + j)
  | 0, _, _, h => by omega
  | n + 1, i, 0, _ => by simp [upto]
  | n + 1, i, j + 1, h => by
    have := upto_get n (i + 1) j (by omega)
    simp only [upto, List.getElem?_cons_succ, this]
    congr 1; omega

theorem pickObs_length (ks : List Nat) (os : List Ob) : ∀ r, (pickObs ks os r).length = r.length
  | [] => rfl
  | _ :: r => by simp [pickObs, pickObs_length ks os r]
theorem pickObs_get (ks : List Nat) (os : List Ob) : ∀ (r : List Nat) (j k : Nat), r[j]? = some k → (pickObs ks os r)[j]? = some ((os.getD k .dead).ren fun o => idxN o ks 0)
  | [], j, k, h => by simp at h
  | x :: r, 0, k, h => by simp at h; subst h; simp [pickObs]
  | x :: r, j + 1, k, h => by simpa [pickObs] using pickObs_get ks os r j k (by simpa using h)

/-! ### A choice of objects -/
structure Pick (ks : List Nat) (n : Nat) : Prop where
  nd : nodup ks = true
  lt : ∀ o ∈ ks, o < n
theorem Pick.of {n np : Nat} {ks : List Nat} (h : ksOK n np ks = true) : Pick ks n := by
  simp only [ksOK, Bool.and_eq_true] at h
  exact ⟨h.1, ksBelow_lt h.2.1⟩
def pickG (ks : List Nat) (g : Gh) : Gh := ⟨ks.map fun k => g.η.getD k Go.undef, fun j => g.ν (ks.getD j 0), fun j b => ∃ k, ks[j]? = some k ∧ g.φ k b⟩
def pm (ks : List Nat) (o : Nat) : Option Nat := idxN o ks 0
theorem pm_some {ks : List Nat} {o j : Nat} (h : pm ks o = some j) : ks[j]? = some o := by
  have := (idxN_some h).2
  simpa using this
theorem pickG_η {ks : List Nat} {j k : Nat} (h : ks[j]? = some k) (hk : k < g.η.length) : (pickG ks g).η[j]? = g.η[k]? := by
  simp [pickG, h, List.getD_eq_getElem?_getD, hk]
theorem pickG_ν {ks : List Nat} {j k : Nat} (h : ks[j]? = some k) : (pickG ks g).ν j = g.ν k := by
  simp [pickG, h, List.getD_eq_getElem?_getD]
theorem pickG_φ {ks : List Nat} {j k : Nat} (h : ks[j]? = some k) : (pickG ks g).φ j = g.φ k := by
  funext b
  simp [pickG, h]
theorem pick_ob {ks : List Nat} {j k : Nat} (h : ks[j]? = some k) (hk : k < os.length) : (pickObs ks os ks)[j]? = (os[k]?).map (Ob.ren (pm ks)) := by
  rw [pickObs_get ks os ks j k h, List.getD_eq_getElem?_getD, List.getElem?_eq_getElem hk]
  rfl
theorem pick_later {ks : List Nat} (hp : Pick ks os.length) (hl : g.η.length = os.length) : LaterM (pm ks) g os (pickG ks g) (pickObs ks os ks) := by
  have ob : ∀ {o j : Nat}, pm ks o = some j → (pickObs ks os ks)[j]? = (os[o]?).map (Ob.ren (pm ks)) := fun {o j} h => by
    have h1 := pm_some h
    exact pick_ob h1 (hp.lt o (List.mem_of_getElem? h1))
  refine ⟨fun o j v hm hv => ?_, fun o j hm ho hd => (ren_dead (ob hm)).2 hd, fun o j T n hm ho hx => (isR3_ren (ob hm)).1 hx, fun o j T ver n hm ho hx => ⟨ver, Nat.le_refl _, (isRH_ren (ob hm)).1 hx, fun _ => pickG_ν (pm_some hm)⟩⟩
  rw [pickG_η (pm_some hm) (List.getElem?_eq_some_iff.1 hv).1]
  exact hv
theorem pick_tracked {ks : List Nat} (hp : Pick ks os.length) {b : Nat} (h : Tracked (pickG ks g) ks.length b) : ∃ k ∈ ks, g.φ k b := by
  obtain ⟨j, hj, k, hk, hb⟩ := h
  exact ⟨k, List.mem_of_getElem? hk, hb⟩

/-- The chosen objects are right under any beginning that lets be what was let be. -/
theorem Inv.pick (hI : Inv tt c w g os) {ks : List Nat} (hp : Pick ks os.length) {c' : Ctx} (hS : ∀ b, Now c w g os.length b → Now c' w (pickG ks g) ks.length b)
    (hown : ∀ b, Tracked (pickG ks g) ks.length b → (c'.w0.heap.size ≤ b ∨ c'.X b) ∧ b < w.heap.size) (hkept : Kept c'.X c'.w0 w) (hs0 : ∀ b, c'.S0 b → b < c'.w0.heap.size ∧ ¬ c'.X b) (htab : c'.T.ok c'.w0 ∧ ∀ b, c'.T.gs b → c'.S0 b) :
    Inv tt c' w (pickG ks g) (pickObs ks os ks) := by
  have hl := hI.len
  have hpl : (pickObs ks os ks).length = ks.length := pickObs_length ks os ks
  refine ⟨by rw [hpl]; simp [pickG], fun j ob v h1 h2 => ?_, fun j j' b h1 h2 h3 h4 => ?_, fun o b ho hb => hown b ⟨o, by omega, hb⟩, hkept, hs0, htab⟩
  · have hj : j < ks.length := by have := ob_lt h1; omega
    have hk := List.getElem?_eq_getElem hj
    have hlt := hp.lt _ (List.getElem_mem hj)
    rw [pick_ob hk hlt, List.getElem?_eq_getElem hlt] at h1
    rw [pickG_η hk (by omega)] at h2
    simp only [Option.map_some, Option.some.injEq] at h1
    rw [← h1, hpl]
    exact (hI.ob _ _ v (List.getElem?_eq_getElem hlt) h2).ren hS (pick_later hp hl) (pickG_ν hk) (pickG_φ hk)
  · obtain ⟨k, hk, hb⟩ := h3
    obtain ⟨k', hk', hb'⟩ := h4
    have := hI.dj k k' b (hp.lt k (List.mem_of_getElem? hk)) (hp.lt k' (List.mem_of_getElem? hk')) hb hb'
    subst this
    exact nodup_inj hp.nd hk hk'

/-! ### Objects put back -/
theorem setObs_length (m : Nat → Option Nat) : ∀ (ks : List Nat) (os r : List Ob), ks.length ≤ r.length → (setObs m os ks r).length = os.length + (r.length - ks.length)
  | [], os, r, h => by cases r <;> simp [setObs]
  | k :: ks, os, [], h => by simp at h
  | k :: ks, os, o :: r, h => by
    simp only [setObs]
    rw [setObs_length m ks _ r (by simpa using h)]
    simp
theorem setObs_new (m : Nat → Option Nat) : ∀ (ks : List Nat) (os r : List Ob) (j : Nat), ks.length ≤ r.length → (setObs m os ks r)[os.length + j]? = (r[ks.length + j]?).map (Ob.ren m)
  | [], os, r, j, h => by
    have : setObs m os [] r = os ++ r.map (Ob.ren m) := by cases r <;> rfl
    rw [this, List.getElem?_append_right (by omega)]
    simp [show os.length + j - os.length = j by omega]
  | k :: ks, os, [], j, h => by simp at h
  | k :: ks, os, o :: r, j, h => by
    simp only [setObs]
    have := setObs_new m ks (os.set k (o.ren m)) r j (by simpa using h)
    rw [List.length_set] at this
    rw [this]
    simp only [List.length_cons]
    rw [show ks.length + 1 + j = ks.length + j + 1 by omega, List.getElem?_cons_succ]
theorem setObs_other (m : Nat → Option Nat) : ∀ (ks : List Nat) (os r : List Ob) (i : Nat), ks.length ≤ r.length → i < os.length → i ∉ ks → (setObs m os ks r)[i]? = os[i]?
  | [], os, r, i, h, hi, hn => by
    have : setObs m os [] r = os ++ r.map (Ob.ren m) := by cases r <;> rfl
    rw [this, List.getElem?_append_left hi]
  | k :: ks, os, [], i, h, _, _ => by simp at h
  | k :: ks, os, o :: r, i, h, hi, hn => by
    simp only [setObs]
    rw [setObs_other m ks _ r i (by simpa using h) (by simpa using hi) (fun h => hn (List.mem_cons_of_mem _ h))]
    rw [List.getElem?_set_ne (fun e => hn (by subst e; exact List.mem_cons_self))]
theorem setObs_old (m : Nat → Option Nat) : ∀ (ks : List Nat) (os r : List Ob) (j k : Nat), nodup ks = true → ks.length ≤ r.length → ks[j]? = some k → k < os.length → (setObs m os ks r)[k]? = (r[j]?).map (Ob.ren m)
  | [], os, r, j, k, _, h, hk, _ => by simp at hk
  | k0 :: ks, os, [], j, k, _, h, hk, _ => by simp at h
  | k0 :: ks, os, o :: r, 0, k, hn, h, hk, hlt => by
    simp only [List.getElem?_cons_zero, Option.some.injEq] at hk
    subst hk
    simp only [nodup, Bool.and_eq_true, Bool.not_eq_true'] at hn
    have hnk : k0 ∉ ks := fun h => by rw [hasN_iff.2 h] at hn; simp at hn
    simp only [setObs]
    rw [setObs_other m ks _ r k0 (by simpa using h) (by simpa using hlt) hnk]
    simp [hlt]
  | k0 :: ks, os, o :: r, j + 1, k, hn, h, hk, hlt => by
    simp only [List.getElem?_cons_succ] at hk
    simp only [nodup, Bool.and_eq_true, Bool.not_eq_true'] at hn
    simp only [setObs, List.getElem?_cons_succ]
    exact setObs_old m ks _ r j k hn.2 (by simpa using h) hk (by simpa using hlt)
/-- What stands in the package's variables stands there still. -/
theorem Inv.tabNow (hI : Inv tt c w g os) : c.T.ok w ∧ ∀ b, c.T.gs b → Now c w g os.length b :=
  ⟨c.T.same c.w0 w (fun b hb => hI.kept.block b (hI.s0 b (hI.tab.2 b hb)).1 (hI.s0 b (hI.tab.2 b hb)).2) hI.tab.1, fun b hb => .inl (hI.tab.2 b hb)⟩

/-- Where an object was in the call. -/
def fwdM (ks : List Nat) (n i : Nat) : Option Nat :=
  match idxN i ks 0 with
  | some j => some j
  | none => if i < n then none else some (ks.length + (i - n))
def backG (ks : List Nat) (n : Nat) (g g' : Gh) : Gh :=
  { η := g.η ++ g'.η.drop ks.length
    ν := fun i => match fwdM ks n i with
      | some j => g'.ν j
      | none => g.ν i
    φ := fun i => match fwdM ks n i with
      | some j => g'.φ j
      | none => g.φ i }
theorem fwd_back {ks : List Nat} {n : Nat} (hp : Pick ks n) {i j : Nat} (h : backM ks n j = some i) : fwdM ks n i = some j := by
  unfold backM at h
  split at h
  · rename_i k hk
    cases h
    unfold fwdM
    split
    · rename_i j' hj'
      rw [nodup_inj hp.nd (pm_some hj') hk]
    · rename_i hn
      exact absurd (List.mem_of_getElem? hk) (idxN_none hn)
  · rename_i hk
    simp at hk
    cases h
    unfold fwdM
    split
    · rename_i j' hj'
      have := hp.lt _ (List.mem_of_getElem? (pm_some hj'))
      omega
    · rw [if_neg (by omega)]
      congr 1; omega
theorem back_fwd {ks : List Nat} {n i j : Nat} (h : fwdM ks n i = some j) : backM ks n j = some i := by
  unfold fwdM at h
  split at h
  · rename_i j' hj'
    cases h
    simp [backM, pm_some hj']
  · split at h
    · cases h
    · cases h
      have : ks[ks.length + (i - n)]? = none := by simp
      simp only [backM, this]
      congr 1; omega
theorem fwd_none {ks : List Nat} {n i : Nat} (h : fwdM ks n i = none) : i ∉ ks ∧ i < n := by
  unfold fwdM at h
  split at h
  · cases h
  · rename_i hn
    split at h
    · exact ⟨idxN_none hn, by assumption⟩
    · cases h

structure Back (tt : TypeId → Option TI) (c : Ctx) (w : World) (g : Gh) (os : List Ob) (w' : World) (g' : Gh) (os' : List Ob) (ks : List Nat) : Prop where
  inv : Inv tt c w' (backG ks os.length g g') (setObs (backM ks os.length) os ks os')
  stp : Stp c w g os w' (backG ks os.length g g') (setObs (backM ks os.length) os ks os')

/-- A caller's objects, with what a call has left of those that it was given. -/
theorem Inv.back (hI : Inv tt c w g os) {ks : List Nat} (hp : Pick ks os.length) {c1 : Ctx} (hw : c1.w0 = w) (hX : c1.X = Tracked (pickG ks g) ks.length) {w' : World} {g' : Gh} {os' : List Ob} (hI' : Inv tt c1 w' g' os') (hg : Later (pickG ks g) (pickObs ks os ks) g' os')
    (hob : LaterM (backM ks os.length) g' os' (backG ks os.length g g') (setObs (backM ks os.length) os ks os') → ((∀ b, c1.S0 b → Now c w g os.length b) → ∀ b, Now c1 w' g' os'.length b → Now c w' (backG ks os.length g g') (setObs (backM ks os.length) os ks os').length b) →
      ∀ (j i : Nat) ob v, backM ks os.length j = some i → os'[j]? = some ob → g'.η[j]? = some v → (backG ks os.length g g').ν i = g'.ν j → (backG ks os.length g g').φ i = g'.φ j →
      RepO tt w' (Now c w' (backG ks os.length g g') (setObs (backM ks os.length) os ks os').length) (backG ks os.length g g') (setObs (backM ks os.length) os ks os') i (ob.ren (backM ks os.length)) v) :
    Back tt c w g os w' g' os' ks ∧ LaterM (backM ks os.length) g' os' (backG ks os.length g g') (setObs (backM ks os.length) os ks os') ∧
      ((∀ b, c1.S0 b → Now c w g os.length b) → ∀ b, Now c1 w' g' os'.length b → Now c w' (backG ks os.length g g') (setObs (backM ks os.length) os ks os').length b) := by
  subst hw
  generalize hg2 : backG ks os.length g g' = g2 at *
  generalize ho2 : setObs (backM ks os.length) os ks os' = os2 at *
  have hl := hI.len
  have hl' := hI'.len
  have hpl : (pickG ks g).η.length = ks.length := by simp [pickG]
  have hkl : ks.length ≤ g'.η.length := by
    rcases Nat.eq_zero_or_pos ks.length with h | h
    · omega
    · have h1 : ks.length - 1 < (pickG ks g).η.length := by omega
      have := hg.ext (ks.length - 1) _ (List.getElem?_eq_getElem h1)
      have := (List.getElem?_eq_some_iff.1 this).1
      omega
  have hkl' : ks.length ≤ os'.length := by omega
  have hlen2 : os2.length = os.length + (os'.length - ks.length) := by rw [← ho2]; exact setObs_length _ _ _ _ hkl'
  have νφ : ∀ {j i : Nat}, backM ks os.length j = some i → g2.ν i = g'.ν j ∧ g2.φ i = g'.φ j := fun {j i} h => by
    rw [← hg2]
    simp only [backG, fwd_back hp h, and_self]
  have νφn : ∀ {i : Nat}, fwdM ks os.length i = none → g2.ν i = g.ν i ∧ g2.φ i = g.φ i := fun {i} h => by
    rw [← hg2]
    simp only [backG, h, and_self]
  -- the objects of the call
  have A : ∀ (j i : Nat), j < os'.length → backM ks os.length j = some i → i < os2.length ∧ os2[i]? = (os'[j]?).map (Ob.ren (backM ks os.length)) ∧ g2.η[i]? = g'.η[j]? := by
    intro j i hj hm
    have hm0 := hm
    unfold backM at hm
    split at hm
    · rename_i k hk
      cases hm
      have hlt := hp.lt _ (List.mem_of_getElem? hk)
      have hjk : j < ks.length := (List.getElem?_eq_some_iff.1 hk).1
      refine ⟨by omega, by rw [← ho2]; exact setObs_old _ ks os os' j i hp.nd hkl' hk hlt, ?_⟩
      rw [← hg2]
      show (g.η ++ g'.η.drop ks.length)[i]? = _
      rw [List.getElem?_append_left (by omega)]
      have h1 := pickG_η (g := g) hk (by omega)
      rw [List.getElem?_eq_getElem (by omega : i < g.η.length)] at h1 ⊢
      exact (hg.ext j _ h1).symm
    · rename_i hk
      have hjk : ks.length ≤ j := by simpa using hk
      simp only [Option.some.injEq] at hm
      subst hm
      refine ⟨by omega, ?_, ?_⟩
      · rw [← ho2, setObs_new _ ks os os' (j - ks.length) hkl', show ks.length + (j - ks.length) = j by omega]
      · rw [← hg2]
        show (g.η ++ g'.η.drop ks.length)[_]? = _
        rw [List.getElem?_append_right (by omega), List.getElem?_drop]
        congr 1; omega
  have hl2 : g2.η.length = os2.length := by
    rw [← hg2, hlen2]
    show (g.η ++ g'.η.drop ks.length).length = _
    simp
    omega
  -- which objects there are
  have B : ∀ i, i < os2.length → (∃ j, j < os'.length ∧ backM ks os.length j = some i) ∨ (fwdM ks os.length i = none ∧ i < os.length ∧ i ∉ ks ∧ os2[i]? = os[i]? ∧ g2.η[i]? = g.η[i]?) := by
    intro i hi
    cases hf : fwdM ks os.length i with
    | some j =>
      have hb := back_fwd hf
      refine .inl ⟨j, ?_, hb⟩
      unfold backM at hb
      split at hb
      · rename_i k hk
        have := (List.getElem?_eq_some_iff.1 hk).1
        omega
      · cases hb
        rename_i hk
        simp at hk
        omega
    | none =>
      obtain ⟨hn, hlt⟩ := fwd_none hf
      refine .inr ⟨rfl, hlt, hn, by rw [← ho2]; exact setObs_other _ ks os os' i hkl' hlt hn, ?_⟩
      rw [← hg2]
      exact List.getElem?_append_left (by omega)
  -- whose block it is
  have pickT : ∀ b, Tracked (pickG ks g) ks.length b → Tracked g os.length b := fun b hb => by
    obtain ⟨k, hk, h⟩ := pick_tracked hp hb
    exact ⟨k, hp.lt k hk, h⟩
  have notPick : ∀ {i b : Nat}, i < os.length → i ∉ ks → g.φ i b → ¬ Tracked (pickG ks g) ks.length b := by
    intro i b hi hn h ht
    obtain ⟨k, hk, h'⟩ := pick_tracked hp ht
    have := hI.dj i k b hi (hp.lt k hk) h h'
    subst this
    exact hn hk
  have cls : ∀ {i b : Nat}, i < os2.length → g2.φ i b → (∃ j, j < os'.length ∧ backM ks os.length j = some i ∧ g'.φ j b) ∨ (i < os.length ∧ i ∉ ks ∧ g.φ i b) := by
    intro i b hi hb
    rcases B i hi with ⟨j, hj, hm⟩ | ⟨hf, hlt, hn, _, _⟩
    · rw [(νφ hm).2] at hb
      exact .inl ⟨j, hj, hm, hb⟩
    · rw [(νφn hf).2] at hb
      exact .inr ⟨hlt, hn, hb⟩
  have T2 : ∀ b, Tracked g2 os2.length b → Tracked g' os'.length b ∨ (Tracked g os.length b ∧ ¬ Tracked (pickG ks g) ks.length b) := by
    rintro b ⟨i, hi, h⟩
    rcases cls hi h with ⟨j, hj, _, h⟩ | ⟨hlt, hn, h⟩
    · exact .inl ⟨j, hj, h⟩
    · exact .inr ⟨⟨i, hlt, h⟩, notPick hlt hn h⟩
  have heap : ∀ b, b < c1.w0.heap.size → ¬ Tracked (pickG ks g) ks.length b → w'.heap[b]? = c1.w0.heap[b]? := fun b hb hn => hI'.kept.block b hb (by rw [hX]; exact hn)
  have hsz : c1.w0.heap.size ≤ w'.heap.size := hI'.kept.size
  have own' : ∀ {j b : Nat}, j < os'.length → g'.φ j b → c1.w0.heap.size ≤ b ∨ Tracked (pickG ks g) ks.length b := fun {j b} hj h => by
    have := (hI'.own j b hj h).1
    rwa [hX] at this
  have N1 : ∀ b, Now c c1.w0 g os.length b → Now c w' g2 os2.length b ∧ w'.heap[b]? = c1.w0.heap[b]? := by
    intro b hb
    obtain ⟨hlt, hnt⟩ := hI.now_lt hb
    refine ⟨?_, heap b hlt fun h => hnt (pickT b h)⟩
    rcases hb with hb | ⟨h0, _, _⟩
    · exact .inl hb
    · refine .inr ⟨h0, by omega, fun ht => ?_⟩
      rcases T2 b ht with ⟨j, hj, h⟩ | ⟨h, _⟩
      · rcases own' hj h with h | h
        · omega
        · exact hnt (pickT b h)
      · exact hnt h
  have N2 : (∀ b, c1.S0 b → Now c c1.w0 g os.length b) → ∀ b, Now c1 w' g' os'.length b → Now c w' g2 os2.length b := by
    intro hS b hb
    rcases hb with hb | ⟨h0, h1, h2⟩
    · exact (N1 b (hS b hb)).1
    · rw [hX] at h0
      refine .inr ⟨?_, h1, fun ht => ?_⟩
      · rcases h0 with h | h
        · exact .inl (Nat.le_trans hI.kept.size h)
        · obtain ⟨o, ho, h⟩ := pickT b h
          exact (hI.own o b ho h).1
      · rcases T2 b ht with h | ⟨⟨o, ho, h⟩, hn⟩
        · exact h2 h
        · rcases h0 with h0 | h0
          · have := (hI.own o b ho h).2
            omega
          · exact hn h0
  have LM : LaterM (backM ks os.length) g' os' g2 os2 := by
    have lt : ∀ {o : Nat}, o < g'.η.length → o < os'.length := fun h => by omega
    refine ⟨fun o j v hm hv => ?_, fun o j hm ho hd => (ren_dead (A o j (lt ho) hm).2.1).2 hd, fun o j T n hm ho hx => (isR3_ren (A o j (lt ho) hm).2.1).1 hx, fun o j T ver n hm ho hx => ⟨ver, Nat.le_refl _, (isRH_ren (A o j (lt ho) hm).2.1).1 hx, fun _ => (νφ hm).1⟩⟩
    rw [(A o j (lt (List.getElem?_eq_some_iff.1 hv).1) hm).2.2]
    exact hv
  have E1 : ∀ (o : Nat) v, g.η[o]? = some v → g2.η[o]? = some v := fun o v h => by
    rw [← hg2]
    show (g.η ++ _)[o]? = _
    rw [List.getElem?_append_left (List.getElem?_eq_some_iff.1 h).1]
    exact h
  have K1 : ∀ {i j : Nat}, i < os.length → backM ks os.length j = some i → ks[j]? = some i := fun {i j} hi hm => by
    unfold backM at hm
    split at hm
    · rename_i k hk
      cases hm
      exact hk
    · simp at hm
      omega
  have LT : Later g os g2 os2 := by
    refine ⟨E1, fun o ho hd => ?_, fun o T n ho hx => ?_, fun o T ver n ho hx => ?_⟩
    · rcases B o (by omega) with ⟨j, hj, hm⟩ | ⟨_, _, _, h, _⟩
      · have hk := K1 (by omega) hm
        refine (ren_dead (A j o hj hm).2.1).2 (hg.dead j (by rw [hpl]; exact (List.getElem?_eq_some_iff.1 hk).1) ?_)
        exact (ren_dead (pick_ob hk (by omega))).2 hd
      · rw [h]; exact hd
    · rcases B o (by omega) with ⟨j, hj, hm⟩ | ⟨_, _, _, h, _⟩
      · have hk := K1 (by omega) hm
        exact (isR3_ren (pick_ob hk (by omega))).1 (hg.r3 j T n (by rw [hpl]; exact (List.getElem?_eq_some_iff.1 hk).1) ((isR3_ren (A j o hj hm).2.1).1 hx))
      · exact isR3_same h hx
    · rcases B o (by omega) with ⟨j, hj, hm⟩ | ⟨hf, _, _, h, _⟩
      · have hk := K1 (by omega) hm
        obtain ⟨v0, h1, h2, h3⟩ := hg.rh j T ver n (by rw [hpl]; exact (List.getElem?_eq_some_iff.1 hk).1) ((isRH_ren (A j o hj hm).2.1).1 hx)
        refine ⟨v0, h1, (isRH_ren (pick_ob hk (by omega))).1 h2, fun e => ?_⟩
        rw [(νφ hm).1, h3 e, pickG_ν hk]
      · exact ⟨ver, Nat.le_refl _, isRH_same h hx, fun _ => (νφn hf).1⟩
  subst hg2 ho2
  refine ⟨⟨⟨hl2, fun i ob v h1 h2 => ?_, fun i i' b h1 h2 h3 h4 => ?_, fun i b hi hb => ?_, ?_, hI.s0, hI.tab⟩, ⟨LT, N1⟩⟩, LM, N2⟩
  · rcases B i (ob_lt h1) with ⟨j, hj, hm⟩ | ⟨hf, hlt, hn, e1, e2⟩
    · obtain ⟨_, a1, a2⟩ := A j i hj hm
      rw [h1, List.getElem?_eq_getElem hj] at a1
      simp only [Option.map_some, Option.some.injEq] at a1
      rw [a1]
      exact hob LM N2 j i _ v hm (List.getElem?_eq_getElem hj) (by rw [← a2]; exact h2) (νφ hm).1 (νφ hm).2
    · rw [e1] at h1
      rw [e2] at h2
      exact (hI.ob i ob v h1 h2).mono N1 LT (νφn hf).1 fun b hb => ⟨by rw [(νφn hf).2]; exact hb, heap b (hI.own i b hlt hb).2 (notPick hlt hn hb)⟩
  · rcases cls h1 h3 with ⟨j, hj, hm, h5⟩ | ⟨hlt, hn, h5⟩ <;> rcases cls h2 h4 with ⟨j', hj', hm', h5'⟩ | ⟨hlt', hn', h5'⟩
    · have := hI'.dj j j' b hj hj' h5 h5'
      subst this
      rw [hm] at hm'
      exact Option.some.inj hm'
    · rcases own' hj h5 with h | h
      · have := (hI.own i' b hlt' h5').2
        omega
      · exact absurd h (notPick hlt' hn' h5')
    · rcases own' hj' h5' with h | h
      · have := (hI.own i b hlt h5).2
        omega
      · exact absurd h (notPick hlt hn h5)
    · exact hI.dj i i' b hlt hlt' h5 h5'
  · rcases cls hi hb with ⟨j, hj, hm, h5⟩ | ⟨hlt, hn, h5⟩
    · obtain ⟨_, h2⟩ := hI'.own j b hj h5
      refine ⟨?_, h2⟩
      rcases own' hj h5 with h1 | h1
      · exact .inl (Nat.le_trans hI.kept.size h1)
      · obtain ⟨o, ho, h⟩ := pickT b h1
        exact (hI.own o b ho h).1
    · exact ⟨(hI.own i b hlt h5).1, Nat.lt_of_lt_of_le (hI.own i b hlt h5).2 hsz⟩
  · refine ⟨hI'.kept.os.trans hI.kept.os, hI'.kept.tape.trans hI.kept.tape, hI'.kept.output.trans hI.kept.output, Nat.le_trans hI.kept.size hsz, fun b hb hX => ?_⟩
    refine (heap b (Nat.lt_of_lt_of_le hb hI.kept.size) fun ht => ?_).trans (hI.kept.block b hb hX)
    obtain ⟨o, ho, h⟩ := pickT b ht
    rcases (hI.own o b ho h).1 with h | h
    · omega
    · exact hX h

end Go.Proofs.EN
