/- Contracts of functions of this program, by the evaluator EN. No conditions but those that each theorem states. -/
import Derived.Test.YtekcghhacpllaaaGreatDoorEN6
/- Changes of what is owned. -/
namespace Go.Proofs.EN
open Go
set_option linter.unusedVariables false
set_option linter.unusedSimpArgs false
variable {tt : TypeId → Option TI} {P : Program} {c : Ctx} {w : World} {g : Gh} {os : List Ob} {S : Nat → Prop}

theorem RowX.mono {w w' : World} {S S' : Nat → Prop} {sk : Nat → Nat → Prop} {md : Md} {v : Value} {T : TypeId} {xs : List (List D)} {φ φ' : Nat → Prop} {ν : Nat → Nat → Value} (hS : ∀ b, S b → S' b ∧ w'.heap[b]? = w.heap[b]?)
    (hφ : ∀ b, φ b → φ' b ∧ w'.heap[b]? = w.heap[b]?) (h : RowX tt w S sk md v T xs φ ν) : RowX tt w' S' sk md v T xs φ' ν := by
  obtain ⟨a, cap, ti, rfl, ht, hd, hk, hfit, hle, hb, hc⟩ := h
  refine ⟨a, cap, ti, rfl, ht, hd, hk, hfit, hle, hb, fun h0 => ?_⟩
  obtain ⟨b, vs, φs, rfl, hh, hsz, hφb, hφs, hdj, hr, hν⟩ := hc h0
  exact ⟨b, vs, φs, rfl, (hφ b hφb).2.trans hh, hsz, (hφ b hφb).1, fun i j x hi hj hs hx => ⟨(hφ x (hφs i j x hi hj hs hx).1).1, (hφs i j x hi hj hs hx).2⟩, hdj,
    fun i j hi hj hs => (hr i j hi hj hs).mono hS fun x hx => ⟨hx, (hφ x (hφs i j x hi hj hs hx).1).2⟩, hν⟩
theorem MapX.mono {w w' : World} {S S' : Nat → Prop} {sk : Nat → Prop} {md : Md} {v : Value} {K V : TypeId} {es : List (D × D)} {φ φ' : Nat → Prop} {ν : Nat → Nat → Value} (hS : ∀ b, S b → S' b ∧ w'.heap[b]? = w.heap[b]?)
    (hφ : ∀ b, φ b → φ' b ∧ w'.heap[b]? = w.heap[b]?) (h : MapX tt w S sk md v K V es φ ν) : MapX tt w' S' sk md v K V es φ' ν := by
  obtain ⟨b, ents, clock, ck, cv, φs, rfl, hh, hk, hφb, hsz, hφs, hdj, hr⟩ := h
  refine ⟨b, ents, clock, ck, cv, φs, rfl, (hφ b hφb).2.trans hh, hk, (hφ b hφb).1, hsz, fun i x hi hs hx => ⟨(hφ x (hφs i x hi hs hx).1).1, (hφs i x hi hs hx).2⟩, hdj, fun i e he => ?_⟩
  obtain ⟨m, h1, h2, h3, h4, h5, h6⟩ := hr i e he
  exact ⟨m, h1, h2, h3, h4.mono hS, fun hs => (h5 hs).mono hS fun x hx => ⟨hx, (hφ x (hφs i x (List.getElem?_eq_some_iff.1 he).1 hs hx).1).2⟩, h6⟩
theorem RepO.mono {w w' : World} {S S' : Nat → Prop} {g g' : Gh} {os os' : List Ob} {o : Nat} (hS : ∀ b, S b → S' b ∧ w'.heap[b]? = w.heap[b]?) (hl : Later g os g' os') (hν : g'.ν o = g.ν o)
    {ob : Ob} {v : Value} (hb : ∀ b, g.φ o b → g'.φ o b ∧ w'.heap[b]? = w.heap[b]?) (h : RepO tt w S g os o ob v) : RepO tt w' S' g' os' o ob v := by
  cases ob with
  | dead => trivial
  | box cs =>
    obtain ⟨b, vs, T, rfl, hh, hsz, hr, h1, hφ⟩ := h
    exact ⟨b, vs, T, rfl, (hb b hφ).2.trans hh, hsz, fun i hi => (hr i hi).mono hS hl, h1, (hb b hφ).1⟩
  | row T md ver xs => simp only [RepO, hν]; exact RowX.mono hS hb h
  | hole T md ver xs i j => simp only [RepO, hν]; exact RowX.mono hS hb h
  | frz T xs => exact Rep.mono hS h
  | map K V md ver es => simp only [RepO, hν]; exact MapX.mono hS hb h
  | maph K V md ver es i => simp only [RepO, hν]; exact MapX.mono hS hb h

structure Chg (c : Ctx) (w : World) (g : Gh) (os : List Ob) (w' : World) (g' : Gh) (os' : List Ob) : Prop where
  len : g'.η.length = os'.length
  later : Later g os g' os'
  trk : ∀ b, Tracked g' os'.length b → Tracked g os.length b ∨ w.heap.size ≤ b
  lt : ∀ b, Tracked g' os'.length b → b < w'.heap.size
  heap : ∀ b, b < w.heap.size → ¬ Tracked g os.length b → w'.heap[b]? = w.heap[b]?
  size : w.heap.size ≤ w'.heap.size
  hos : w'.os = w.os
  tape : w'.tape = w.tape
  output : w'.output = w.output
  dj : ∀ (o o' : Nat) b, o < os'.length → o' < os'.length → g'.φ o b → g'.φ o' b → o = o'

theorem Later.refl (g : Gh) (os : List Ob) : Later g os g os := ⟨fun _ _ h => h, fun _ _ h => h, fun _ _ _ _ h => h, fun _ _ ver _ _ h => ⟨ver, Nat.le_refl _, h, fun _ => rfl⟩⟩
theorem Later.lt {g' : Gh} {os' : List Ob} (h : Later g os g' os') {o : Nat} (ho : o < g.η.length) : o < g'.η.length := by
  have := h.ext o (g.η[o]) (by simp [ho])
  exact (List.getElem?_eq_some_iff.1 this).1
theorem Later.trans {g' g'' : Gh} {os' os'' : List Ob} (h : Later g os g' os') (k : Later g' os' g'' os'') : Later g os g'' os'' :=
  ⟨fun o v hv => k.ext o v (h.ext o v hv), fun o ho hd => k.dead o (h.lt ho) (h.dead o ho hd), fun o T n ho hx => h.r3 o T n ho (k.r3 o T n (h.lt ho) hx), fun o T ver n ho hx => by
    obtain ⟨v1, l1, h1, h2⟩ := k.rh o T ver n (h.lt ho) hx
    obtain ⟨v0, l0, h3, h4⟩ := h.rh o T v1 n ho h1
    exact ⟨v0, by omega, h3, fun e => (h2 (by omega)).trans (h4 (by omega))⟩⟩

theorem Chg.now {w' : World} {g' : Gh} {os' : List Ob} (hI : Inv tt c w g os) (hc : Chg c w g os w' g' os') : ∀ b, Now c w g os.length b → Now c w' g' os'.length b ∧ w'.heap[b]? = w.heap[b]? := by
  intro b hb
  obtain ⟨hlt, hnt⟩ := hI.now_lt hb
  refine ⟨?_, hc.heap b hlt hnt⟩
  rcases hb with hb | ⟨h0, _, _⟩
  · exact .inl hb
  · refine .inr ⟨h0, Nat.lt_of_lt_of_le hlt hc.size, fun ht => ?_⟩
    rcases hc.trk b ht with h | h
    · exact hnt h
    · omega
theorem Chg.rep {w' : World} {g' : Gh} {os' : List Ob} (hI : Inv tt c w g os) (hc : Chg c w g os w' g' os') {v : Value} {x : C} (h : RepC tt w (Now c w g os.length) g os v x) : RepC tt w' (Now c w' g' os'.length) g' os' v x :=
  h.mono (hc.now hI) hc.later
theorem Chg.inv {w' : World} {g' : Gh} {os' : List Ob} (hI : Inv tt c w g os) (hc : Chg c w g os w' g' os')
    (hob : ∀ (o : Nat) ob v, os'[o]? = some ob → g'.η[o]? = some v → (os[o]? = some ob ∧ o < g.η.length ∧ g'.ν o = g.ν o ∧ ∀ b, g.φ o b → g'.φ o b ∧ w'.heap[b]? = w.heap[b]?) ∨ RepO tt w' (Now c w' g' os'.length) g' os' o ob v) : Inv tt c w' g' os' := by
  refine ⟨hc.len, fun o ob v h1 h2 => ?_, hc.dj, fun o b ho hb => ?_, ?_, hI.s0, hI.tab⟩
  · rcases hob o ob v h1 h2 with ⟨h3, h4, h5, h6⟩ | h
    · have h7 : g.η[o]? = some v := by
        have := hc.later.ext o (g.η[o]) (by simp [h4])
        rw [h2] at this
        cases this
        simp [h4]
      exact (hI.ob o ob v h3 h7).mono (hc.now hI) hc.later h5 h6
    · exact h
  · refine ⟨?_, hc.lt b ⟨o, ho, hb⟩⟩
    rcases hc.trk b ⟨o, ho, hb⟩ with ⟨o', ho', h⟩ | h
    · exact (hI.own o' b ho' h).1
    · exact .inl (Nat.le_trans hI.kept.size h)
  · refine ⟨hc.hos.trans hI.kept.os, hc.tape.trans hI.kept.tape, hc.output.trans hI.kept.output, Nat.le_trans hI.kept.size hc.size, fun b hb hX => ?_⟩
    have hnt : ¬ Tracked g os.length b := fun ⟨o, ho, ht⟩ => by
      rcases (hI.own o b ho ht).1 with h | h
      · omega
      · exact hX h
    exact (hc.heap b (Nat.lt_of_lt_of_le hb hI.kept.size) hnt).trans (hI.kept.block b hb hX)
theorem RepSt.chg {nt : Nat} {a : Act} {s : St} (h : RepSt tt c w g nt a s) {w' : World} {g' : Gh} {os' : List Ob} (hc : Chg c w g s.objs w' g' os')
    (hob : ∀ (o : Nat) ob v, os'[o]? = some ob → g'.η[o]? = some v → (s.objs[o]? = some ob ∧ o < g.η.length ∧ g'.ν o = g.ν o ∧ ∀ b, g.φ o b → g'.φ o b ∧ w'.heap[b]? = w.heap[b]?) ∨ RepO tt w' (Now c w' g' os'.length) g' os' o ob v) : RepSt tt c w' g' nt a ⟨s.tmps, os'⟩ :=
  ⟨hc.inv h.inv hob, h.dfr, h.len, fun i => hc.rep h.inv (h.tmp i)⟩

theorem getElem?_snoc {α : Type} {l : List α} {x y : α} {i : Nat} (h : (l ++ [x])[i]? = some y) : (i < l.length ∧ l[i]? = some y) ∨ (i = l.length ∧ y = x) := by
  rcases Nat.lt_or_ge i l.length with hi | hi
  · rw [List.getElem?_append_left hi] at h
    exact .inl ⟨hi, h⟩
  · rw [List.getElem?_append_right hi] at h
    rcases Nat.eq_or_lt_of_le hi with he | hl
    · subst he
      simp at h
      exact .inr ⟨rfl, h.symm⟩
    · have : i - l.length ≠ 0 := by omega
      cases hq : i - l.length with
      | zero => exact absurd hq this
      | succ n => rw [hq] at h; simp at h
theorem isR3_same {os' : List Ob} {o : Nat} {T : TypeId} {n : Nat} (h : os'[o]? = os[o]?) (hx : isR3 os' o T n) : isR3 os o T n := by
  unfold isR3 at hx ⊢; rwa [h] at hx
theorem isRH_same {os' : List Ob} {o : Nat} {T : TypeId} {ver n : Nat} (h : os'[o]? = os[o]?) (hx : isRH os' o T ver n) : isRH os o T ver n := by
  unfold isRH at hx ⊢; rwa [h] at hx

/-! ### A new object -/
/-- Blocks of the dead may go to it. -/
def Gh.new (g : Gh) (v : Value) (ν0 : Nat → Nat → Value) (φ0 Ψ : Nat → Prop) : Gh :=
  { η := g.η ++ [v], ν := fun k => if k = g.η.length then ν0 else g.ν k, φ := fun k b => if k = g.η.length then φ0 b else g.φ k b ∧ ¬ Ψ b }
theorem Chg.new (hI : Inv tt c w g os) {w' : World} {ob : Ob} {v : Value} {ν0 : Nat → Nat → Value} {φ0 Ψ : Nat → Prop} (hsize : w.heap.size ≤ w'.heap.size) (hheap : ∀ b, b < w.heap.size → ¬ Ψ b → w'.heap[b]? = w.heap[b]?)
    (hos : w'.os = w.os) (ht : w'.tape = w.tape) (ho : w'.output = w.output) (hΨ : ∀ b, Ψ b → ∃ m, os[m]? = some .dead ∧ g.φ m b) (hφ : ∀ b, φ0 b → Ψ b ∨ (w.heap.size ≤ b ∧ b < w'.heap.size)) :
    Chg c w g os w' (g.new v ν0 φ0 Ψ) (os ++ [ob]) := by
  have hl := hI.len
  have old : ∀ o, o < os.length → (os ++ [ob])[o]? = os[o]? := fun o ho => by rw [List.getElem?_append_left ho]
  have φold : ∀ {o b}, o < os.length → (g.new v ν0 φ0 Ψ).φ o b → g.φ o b ∧ ¬ Ψ b := fun {o b} ho h => by
    simp only [Gh.new, if_neg (show o ≠ g.η.length by omega)] at h
    exact h
  have φnew : ∀ {b}, (g.new v ν0 φ0 Ψ).φ os.length b → φ0 b := fun {b} h => by
    simp only [Gh.new, if_pos hl.symm] at h
    exact h
  have cls : ∀ b, Tracked (g.new v ν0 φ0 Ψ) (os ++ [ob]).length b → (Tracked g os.length b ∧ b < w'.heap.size) ∨ (w.heap.size ≤ b ∧ b < w'.heap.size) := by
    rintro b ⟨o, ho', h⟩
    rw [List.length_append, List.length_singleton] at ho'
    rcases Nat.lt_or_ge o os.length with hlt | hge
    · have := (φold hlt h).1
      exact .inl ⟨⟨o, hlt, this⟩, Nat.lt_of_lt_of_le (hI.own o b hlt this).2 hsize⟩
    · have he : o = os.length := by omega
      subst he
      rcases hφ b (φnew h) with h | h
      · obtain ⟨m, h1, h2⟩ := hΨ b h
        exact .inl ⟨⟨m, ob_lt h1, h2⟩, Nat.lt_of_lt_of_le (hI.own m b (ob_lt h1) h2).2 hsize⟩
      · exact .inr h
  refine ⟨by simp [Gh.new, hl], ⟨fun o u hu => ?_, fun o ho' hd => ?_, fun o T n ho' hx => ?_, fun o T ver n ho' hx => ?_⟩, fun b hb => ?_, fun b hb => ?_, fun b hb hnt => hheap b hb fun hp => ?_, hsize, hos, ht, ho, fun o o' b h1 h2 h3 h4 => ?_⟩
  · have := (List.getElem?_eq_some_iff.1 hu).1
    simp only [Gh.new]
    rw [List.getElem?_append_left this]; exact hu
  · rw [old o (by omega)]; exact hd
  · exact isR3_same (old o (by omega)) hx
  · exact ⟨ver, Nat.le_refl _, isRH_same (old o (by omega)) hx, fun _ => by simp [Gh.new, show o ≠ g.η.length by omega]⟩
  · rcases cls b hb with h | h
    · exact .inl h.1
    · exact .inr h.1
  · rcases cls b hb with h | h
    · exact h.2
    · exact h.2
  · obtain ⟨m, h1, h2⟩ := hΨ b hp
    exact hnt ⟨m, ob_lt h1, h2⟩
  · rw [List.length_append, List.length_singleton] at h1 h2
    have key : ∀ {o : Nat}, o < os.length → (g.new v ν0 φ0 Ψ).φ o b → (g.new v ν0 φ0 Ψ).φ os.length b → False := by
      intro o hlt h5 h6
      obtain ⟨h7, h8⟩ := φold hlt h5
      rcases hφ b (φnew h6) with h | h
      · exact h8 h
      · have := (hI.own o b hlt h7).2
        omega
    rcases Nat.lt_or_ge o os.length with hlt | hge <;> rcases Nat.lt_or_ge o' os.length with hlt' | hge'
    · exact hI.dj o o' b hlt hlt' (φold hlt h3).1 (φold hlt' h4).1
    · have he : o' = os.length := by omega
      subst he
      exact (key hlt h3 h4).elim
    · have he : o = os.length := by omega
      subst he
      exact (key hlt' h4 h3).elim
    · omega
theorem RepSt.new {nt : Nat} {a : Act} {s : St} (h : RepSt tt c w g nt a s) {w' : World} {ob : Ob} {v : Value} {ν0 : Nat → Nat → Value} {φ0 Ψ : Nat → Prop} (hsize : w.heap.size ≤ w'.heap.size) (hheap : ∀ b, b < w.heap.size → ¬ Ψ b → w'.heap[b]? = w.heap[b]?)
    (hos : w'.os = w.os) (ht : w'.tape = w.tape) (ho : w'.output = w.output) (hΨ : ∀ b, Ψ b → ∃ m, s.objs[m]? = some .dead ∧ g.φ m b) (hφ : ∀ b, φ0 b → Ψ b ∨ (w.heap.size ≤ b ∧ b < w'.heap.size))
    (hrep : RepO tt w' (Now c w' (g.new v ν0 φ0 Ψ) (s.objs ++ [ob]).length) (g.new v ν0 φ0 Ψ) (s.objs ++ [ob]) s.objs.length ob v) : RepSt tt c w' (g.new v ν0 φ0 Ψ) nt a ⟨s.tmps, s.objs ++ [ob]⟩ := by
  have hl := h.inv.len
  refine h.chg (.new h.inv hsize hheap hos ht ho hΨ hφ) fun i ob' v' h1 h2 => ?_
  have A1 := getElem?_snoc h1
  have A2 := getElem?_snoc h2
  rcases A1 with ⟨l1, A1⟩ | ⟨l1, A1⟩ <;> rcases A2 with ⟨l2, A2⟩ | ⟨l2, A2⟩
  · by_cases hd : ob' = .dead
    · subst hd; exact .inr trivial
    · refine .inl ⟨A1, l2, by simp [Gh.new, show i ≠ g.η.length by omega], fun b hb => ?_⟩
      have hn : ¬ Ψ b := fun hp => by
        obtain ⟨m, h3, h4⟩ := hΨ b hp
        have := h.inv.dj i m b l1 (ob_lt h3) hb h4
        subst this
        rw [A1] at h3
        cases h3
        exact hd rfl
      exact ⟨by simp [Gh.new, show i ≠ g.η.length by omega, hb, hn], hheap b (h.inv.own i b l1 hb).2 hn⟩
  · omega
  · omega
  · subst l1
    rw [A1, A2]
    exact .inr hrep

/-! ### An object that changes -/
def Gh.upd (g : Gh) (o : Nat) (ν0 : Nat → Nat → Value) (φ0 Ψ : Nat → Prop) : Gh :=
  { η := g.η, ν := fun k => if k = o then ν0 else g.ν k, φ := fun k b => if k = o then φ0 b else g.φ k b ∧ ¬ Ψ b }
theorem Chg.upd (hI : Inv tt c w g os) {o : Nat} {ob0 ob : Ob} (ho0 : os[o]? = some ob0) (hd0 : ob0 ≠ .dead) {w' : World} {ν0 : Nat → Nat → Value} {φ0 Ψ : Nat → Prop} (hsize : w.heap.size ≤ w'.heap.size)
    (hheap : ∀ b, b < w.heap.size → ¬ Ψ b → ¬ g.φ o b → w'.heap[b]? = w.heap[b]?) (hos : w'.os = w.os) (ht : w'.tape = w.tape) (ho : w'.output = w.output)
    (hΨ : ∀ b, Ψ b → ∃ m, os[m]? = some .dead ∧ g.φ m b) (hφ : ∀ b, φ0 b → g.φ o b ∨ Ψ b ∨ (w.heap.size ≤ b ∧ b < w'.heap.size))
    (h3 : ∀ T n, isR3 (os.set o ob) o T n → isR3 os o T n) (hrh : ∀ T ver' n, isRH (os.set o ob) o T ver' n → ∃ ver, ver ≤ ver' ∧ isRH os o T ver n ∧ (ver' = ver → ν0 = g.ν o)) :
    Chg c w g os w' (g.upd o ν0 φ0 Ψ) (os.set o ob) := by
  have hl := hI.len
  have hol := ob_lt ho0
  have other : ∀ i, i ≠ o → (os.set o ob)[i]? = os[i]? := fun i hi => List.getElem?_set_ne (Ne.symm hi)
  have φo : ∀ {b}, (g.upd o ν0 φ0 Ψ).φ o b → φ0 b := fun {b} h => by simpa [Gh.upd] using h
  have φk : ∀ {k b}, k ≠ o → (g.upd o ν0 φ0 Ψ).φ k b → g.φ k b ∧ ¬ Ψ b := fun {k b} hk h => by simpa [Gh.upd, hk] using h
  have cls : ∀ b, Tracked (g.upd o ν0 φ0 Ψ) (os.set o ob).length b → (Tracked g os.length b ∧ b < w'.heap.size) ∨ (w.heap.size ≤ b ∧ b < w'.heap.size) := by
    rintro b ⟨k, hk, h⟩
    rw [List.length_set] at hk
    by_cases hko : k = o
    · subst hko
      rcases hφ b (φo h) with h | h | h
      · exact .inl ⟨⟨k, hk, h⟩, Nat.lt_of_lt_of_le (hI.own k b hk h).2 hsize⟩
      · obtain ⟨m, h1, h2⟩ := hΨ b h
        exact .inl ⟨⟨m, ob_lt h1, h2⟩, Nat.lt_of_lt_of_le (hI.own m b (ob_lt h1) h2).2 hsize⟩
      · exact .inr h
    · have := (φk hko h).1
      exact .inl ⟨⟨k, hk, this⟩, Nat.lt_of_lt_of_le (hI.own k b hk this).2 hsize⟩
  refine ⟨by simp [Gh.upd, hl], ⟨fun _ _ h => h, fun i hi hd => ?_, fun i T n hi hx => ?_, fun i T ver n hi hx => ?_⟩, fun b hb => ?_, fun b hb => ?_, fun b hb hnt => hheap b hb (fun hp => ?_) (fun hp => hnt ⟨o, hol, hp⟩), hsize, hos, ht, ho, fun i i' b h1 h2 h4 h5 => ?_⟩
  · by_cases hio : i = o
    · subst hio; rw [ho0] at hd; cases hd; exact absurd rfl hd0
    · rw [other i hio]; exact hd
  · by_cases hio : i = o
    · subst hio; exact h3 T n hx
    · exact isR3_same (other i hio) hx
  · by_cases hio : i = o
    · subst hio
      obtain ⟨v0, l0, h1, h2⟩ := hrh T ver n hx
      exact ⟨v0, l0, h1, fun e => by simp [Gh.upd, h2 e]⟩
    · exact ⟨ver, Nat.le_refl _, isRH_same (other i hio) hx, fun _ => by simp [Gh.upd, hio]⟩
  · rcases cls b hb with h | h
    · exact .inl h.1
    · exact .inr h.1
  · rcases cls b hb with h | h
    · exact h.2
    · exact h.2
  · obtain ⟨m, h1, h2⟩ := hΨ b hp
    exact hnt ⟨m, ob_lt h1, h2⟩
  · rw [List.length_set] at h1 h2
    have key : ∀ {k : Nat}, k < os.length → k ≠ o → (g.upd o ν0 φ0 Ψ).φ k b → (g.upd o ν0 φ0 Ψ).φ o b → False := by
      intro k hlt hko h5 h6
      obtain ⟨h7, h8⟩ := φk hko h5
      rcases hφ b (φo h6) with h | h | h
      · exact hko (hI.dj k o b hlt hol h7 h)
      · exact h8 h
      · have := (hI.own k b hlt h7).2
        omega
    by_cases hio : i = o <;> by_cases hio' : i' = o
    · rw [hio, hio']
    · subst hio; exact (key h2 hio' h5 h4).elim
    · subst hio'; exact (key h1 hio h4 h5).elim
    · exact hI.dj i i' b h1 h2 (φk hio h4).1 (φk hio' h5).1
theorem RepSt.upd {nt : Nat} {a : Act} {s : St} (h : RepSt tt c w g nt a s) {o : Nat} {ob0 ob : Ob} (ho0 : s.objs[o]? = some ob0) (hd0 : ob0 ≠ .dead) {w' : World} {ν0 : Nat → Nat → Value} {φ0 Ψ : Nat → Prop} (hsize : w.heap.size ≤ w'.heap.size)
    (hheap : ∀ b, b < w.heap.size → ¬ Ψ b → ¬ g.φ o b → w'.heap[b]? = w.heap[b]?) (hos : w'.os = w.os) (ht : w'.tape = w.tape) (ho : w'.output = w.output)
    (hΨ : ∀ b, Ψ b → ∃ m, s.objs[m]? = some .dead ∧ g.φ m b) (hφ : ∀ b, φ0 b → g.φ o b ∨ Ψ b ∨ (w.heap.size ≤ b ∧ b < w'.heap.size))
    (h3 : ∀ T n, isR3 (s.objs.set o ob) o T n → isR3 s.objs o T n) (hrh : ∀ T ver' n, isRH (s.objs.set o ob) o T ver' n → ∃ ver, ver ≤ ver' ∧ isRH s.objs o T ver n ∧ (ver' = ver → ν0 = g.ν o))
    (hrep : ∀ v, g.η[o]? = some v → RepO tt w' (Now c w' (g.upd o ν0 φ0 Ψ) (s.objs.set o ob).length) (g.upd o ν0 φ0 Ψ) (s.objs.set o ob) o ob v) :
    RepSt tt c w' (g.upd o ν0 φ0 Ψ) nt a ⟨s.tmps, s.objs.set o ob⟩ := by
  have hol := ob_lt ho0
  refine h.chg (.upd h.inv ho0 hd0 hsize hheap hos ht ho hΨ hφ h3 hrh) fun i ob' v' h1 h2 => ?_
  by_cases hio : i = o
  · subst hio
    rw [List.getElem?_set_self hol] at h1
    cases h1
    exact .inr (hrep v' h2)
  · rw [List.getElem?_set_ne (Ne.symm hio)] at h1
    by_cases hd : ob' = .dead
    · subst hd; exact .inr trivial
    · have hil := ob_lt h1
      refine .inl ⟨h1, by have := h.inv.len; omega, by simp [Gh.upd, hio], fun b hb => ?_⟩
      have hn : ¬ Ψ b := fun hp => by
        obtain ⟨m, h3, h4⟩ := hΨ b hp
        have := h.inv.dj i m b hil (ob_lt h3) hb h4
        subst this
        rw [h1] at h3
        cases h3
        exact hd rfl
      exact ⟨by simp [Gh.upd, hio, hb, hn], hheap b (h.inv.own i b hil hb).2 hn fun hp => hio (h.inv.dj i o b hil hol hb hp)⟩

/-- An object that is given up keeps its blocks for whoever takes them. -/
theorem Chg.die (hI : Inv tt c w g os) {o : Nat} {ob0 : Ob} (ho0 : os[o]? = some ob0) : Chg c w g os w g (os.set o .dead) := by
  have hol := ob_lt ho0
  have other : ∀ i, i ≠ o → (os.set o .dead)[i]? = os[i]? := fun i hi => List.getElem?_set_ne (Ne.symm hi)
  have self : (os.set o .dead)[o]? = some .dead := List.getElem?_set_self hol
  refine ⟨by simp [hI.len], ⟨fun _ _ h => h, fun i hi hd => ?_, fun i T n hi hx => ?_, fun i T ver n hi hx => ?_⟩, fun b hb => .inl (by rwa [List.length_set] at hb), fun b ⟨k, hk, h⟩ => (hI.own k b (by rwa [List.length_set] at hk) h).2, fun _ _ _ => rfl, Nat.le_refl _, rfl, rfl, rfl, fun i i' b h1 h2 => hI.dj i i' b (by simpa using h1) (by simpa using h2)⟩
  · by_cases hio : i = o
    · subst hio; exact self
    · rw [other i hio]; exact hd
  · by_cases hio : i = o
    · subst hio
      rcases hx with ⟨_, _, _, h, _⟩ | ⟨_, _, _, _, _, h, _⟩ | ⟨_, h, _⟩ <;> rw [self] at h <;> cases h
    · exact isR3_same (other i hio) hx
  · by_cases hio : i = o
    · subst hio
      rcases hx with ⟨_, _, h, _⟩ | ⟨_, _, _, _, h, _⟩ | ⟨_, _, _, h, _⟩ | ⟨_, _, _, _, h, _⟩ <;> rw [self] at h <;> cases h
    · exact ⟨ver, Nat.le_refl _, isRH_same (other i hio) hx, fun _ => rfl⟩
theorem RepSt.die {nt : Nat} {a : Act} {s : St} (h : RepSt tt c w g nt a s) {o : Nat} {ob0 : Ob} (ho0 : s.objs[o]? = some ob0) : RepSt tt c w g nt a ⟨s.tmps, s.objs.set o .dead⟩ := by
  refine h.chg (.die h.inv ho0) fun i ob' v' h1 h2 => ?_
  by_cases hio : i = o
  · subst hio
    rw [List.getElem?_set_self (ob_lt ho0)] at h1
    cases h1
    exact .inr trivial
  · rw [List.getElem?_set_ne (Ne.symm hio)] at h1
    exact .inl ⟨h1, by have := h.inv.len; have := ob_lt h1; omega, rfl, fun b hb => ⟨hb, rfl⟩⟩

/-- A row becomes plain data. -/
theorem frz_step {nt : Nat} {a : Act} {s : St} (h : RepSt tt c w g nt a s) {o : Nat} {T : TypeId} {md : Md} {ver : Nat} {xs : List (List D)} (ho0 : s.objs[o]? = some (.row T md ver xs)) :
    let g' := g.upd o (g.ν o) (fun _ => False) (fun _ => False)
    RepSt tt c w g' nt a ⟨s.tmps, s.objs.set o (.frz T xs)⟩ ∧ Chg c w g s.objs w g' (s.objs.set o (.frz T xs)) ∧ ∀ v, g.η[o]? = some v → Rep tt w (Now c w g' (s.objs.set o (.frz T xs)).length) v (.list T xs) := by
  intro g'
  have hol := ob_lt ho0
  have self : (s.objs.set o (.frz T xs))[o]? = some (.frz T xs) := List.getElem?_set_self hol
  have h3 : ∀ T2 n, isR3 (s.objs.set o (.frz T xs)) o T2 n → isR3 s.objs o T2 n := fun T2 n hx => by
    obtain ⟨rfl, rfl⟩ := isR3_frz self hx
    exact .inl ⟨md, ver, xs, ho0, rfl⟩
  have hrh : ∀ T2 ver2 n, isRH (s.objs.set o (.frz T xs)) o T2 ver2 n → ∃ ver, ver ≤ ver2 ∧ isRH s.objs o T2 ver n ∧ (ver2 = ver → g.ν o = g.ν o) := fun T2 ver2 n hx => by
    rcases hx with ⟨_, _, h, _⟩ | ⟨_, _, _, _, h, _⟩ | ⟨_, _, _, h, _⟩ | ⟨_, _, _, _, h, _⟩ <;> rw [self] at h <;> cases h
  have hc : Chg c w g s.objs w g' (s.objs.set o (.frz T xs)) := .upd h.inv ho0 (by simp) (Nat.le_refl _) (fun _ _ _ _ => rfl) rfl rfl rfl (fun b hb => hb.elim) (fun b hb => hb.elim) h3 hrh
  have hr : ∀ v, g.η[o]? = some v → Rep tt w (Now c w g' (s.objs.set o (.frz T xs)).length) v (.list T xs) := fun v hv => by
    refine (h.inv.ob o _ v ho0 hv).repW.frz (fun b hb => (hc.now h.inv b hb).1) fun b hb => .inr ?_
    have := h.inv.own o b hol hb
    refine ⟨this.1, this.2, ?_⟩
    rintro ⟨k, hk, hkb⟩
    rw [List.length_set] at hk
    by_cases hko : k = o
    · subst hko; simp [g', Gh.upd] at hkb
    · simp only [g', Gh.upd, if_neg hko] at hkb
      exact hko (h.inv.dj k o b hk hol hkb.1 hb)
  exact ⟨h.upd ho0 (by simp) (Nat.le_refl _) (fun _ _ _ _ => rfl) rfl rfl rfl (fun b hb => hb.elim) (fun b hb => hb.elim) h3 hrh hr, hc, hr⟩

end Go.Proofs.EN
