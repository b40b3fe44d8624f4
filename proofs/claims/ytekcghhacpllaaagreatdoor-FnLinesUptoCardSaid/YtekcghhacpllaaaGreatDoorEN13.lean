/- Contracts of functions of this program, by the evaluator EN. No conditions but those that each theorem states. -/
import Derived.Test.YtekcghhacpllaaaGreatDoorEN11
/- Rows taken out of cells and put back; append. -/
namespace Go.Proofs.EN
open Go
set_option linter.unusedVariables false
set_option linter.unusedSimpArgs false
variable {tt : TypeId → Option TI} {P : Program} {c : Ctx} {w : World} {g : Gh} {os : List Ob} {S : Nat → Prop}

/-! ### What holds in whatever world -/
theorem scal_any {w' : World} {S' : Nat → Prop} {k : CK} {v : Value} {d : D} (hk : k.scalar = true) (hf : k.fits d) (h : Rep tt w S v d) : Rep tt w' S' v d := by
  cases k with
  | bool => obtain ⟨b, rfl⟩ := hf; cases h; exact .bool _
  | int k => obtain ⟨n, rfl⟩ := hf; cases h; exact .int _ _
  | str => obtain ⟨l, rfl⟩ := hf; cases h with | str _ hb => exact .str _ hb
  | list e => cases hk
  | iface => cases hk
  | other => cases hk
theorem scalKs_at {ks : List CK} (h : scalKs ks = true) {i : Nat} {k : CK} (hk : ks[i]? = some k) : k.scalar = true := by
  induction ks generalizing i with
  | nil => simp at hk
  | cons k0 ks ih =>
    simp only [scalKs, Bool.and_eq_true] at h
    cases i with
    | zero => simp at hk; subst hk; exact h.1
    | succ i => exact ih h.2 (by simpa using hk)
theorem sc_any {w' : World} {S' : Nat → Prop} {v : Value} {d : D} (hd : d.isL = false) (h : Rep tt w S v d) : Rep tt w' S' v d := by
  cases h with
  | bool b => exact .bool b
  | int k n => exact .int k n
  | str l hb => exact .str l hb
  | nilI => exact .nilI
  | errN => exact .errN
  | errE t v => exact .errE t v
  | nil => cases hd
  | iface t v d ti k ht hc hk ha hf h => exact .iface t v d ti k ht hc hk ha hf (scal_any hk hf h)
  | ifaceS t vs ds ti ht hk ha hf hl h =>
    refine .ifaceS t vs ds ti ht hk ha hf hl fun i hi => ?_
    have hki : ti.cells[i]? = some ti.cells[i] := List.getElem?_eq_getElem hi
    exact scal_any (scalKs_at hk hki) (fitsAll_at hf i _ hki) (h i hi)
  | list => cases hd
theorem flatKs_at {ks : List CK} (h : flatKs ks = true) {i : Nat} {k : CK} (hk : ks[i]? = some k) : k.isL = false := by
  induction ks generalizing i with
  | nil => simp at hk
  | cons k0 ks ih =>
    simp only [flatKs, Bool.and_eq_true, Bool.not_eq_true'] at h
    cases i with
    | zero => simp at hk; subst hk; exact h.1
    | succ i => exact ih h.2 (by simpa using hk)

theorem getD_set_self {l : List D} {q : Nat} (h : q < l.length) (v : D) : (l.set q v).getD q .z = v := by
  simp [List.getD_eq_getElem?_getD, h]

/-! ### Out of a cell, and back -/
theorem open_gen {nt : Nat} {a : Act} {s : St} (hs : RepSt tt c w g nt a s) {o i off : Nat} {e : TypeId} {md : Md} {ob0 ob1 : Ob} {ys : List (List D)} {φ' : Nat → Prop} {te : TI} (ho : s.objs[o]? = some ob0) (hd0 : ob0 ≠ .dead)
    (hw : RepW tt w (Now c w g s.objs.length) md (g.ν o i off) (.list e ys) φ') (hz : md.isZ = false) (hφ' : ∀ x, φ' x → g.φ o x) (hte : tt e = some te) (hde : dataKs te.cells = true) (hke : 0 < te.cells.length)
    (h3 : ∀ (os' : List Ob) T n, os'[o]? = some ob1 → isR3 os' o T n → isR3 s.objs o T n) (hrh : ∀ (os' : List Ob) T ver n, os'[o]? = some ob1 → isRH os' o T ver n → isRH s.objs o T ver n)
    (hob : ∀ (g' : Gh) (os' : List Ob) (S' : Nat → Prop) v, g.η[o]? = some v → (∀ b, Now c w g s.objs.length b → S' b) → (∀ x, g'.φ o x ↔ (g.φ o x ∧ ¬ φ' x)) → g'.ν o = g.ν o → RepO tt w S' g' os' o ob1 v) :
    ∃ g', RepSt tt c w g' nt a ⟨s.tmps, s.objs.set o ob1 ++ [.row e md.down 0 ys]⟩ ∧ Stp c w g s.objs w g' (s.objs.set o ob1 ++ [.row e md.down 0 ys]) ∧
      g'.η = g.η ++ [g.ν o i off] ∧ g'.ν o = g.ν o ∧ (∀ k b, k ≠ o → k < s.objs.length → (g'.φ k b ↔ g.φ k b)) := by
  have hol := ob_lt ho
  have hl := hs.inv.len
  obtain ⟨v0, hv0⟩ := hs.inv.eta ho
  obtain ⟨am, capm, hνe, hbm, hlm, hcm⟩ := hw.list_inv hz
  -- the new row's cells
  have hcells : ∃ νm : Nat → Nat → Value, ∀ {w' : World} {S' : Nat → Prop}, (∀ x, Now c w g s.objs.length x → S' x ∧ w'.heap[x]? = w.heap[x]?) → (∀ x, φ' x → w'.heap[x]? = w.heap[x]?) → RowX tt w' S' (fun _ _ => False) md.down (g.ν o i off) e ys φ' νm := by
    rcases Nat.eq_zero_or_pos capm with h0 | h0
    · refine ⟨fun _ _ => Go.undef, fun {w' S'} _ _ => ?_⟩
      have : ys = [] := List.eq_nil_of_length_eq_zero (by omega)
      subst this
      exact ⟨am, capm, te, hνe, hte, hde, hke, fun i hi => by simp at hi, by simp, by simp, fun h => by omega⟩
    · obtain ⟨te', hte', hdm, hkm, hfm, bm, vsm, φm, rfl, hhm, hszm, hφbm, hφsm, hdjm, hrm⟩ := hcm h0
      refine ⟨fun p q => vsm.getD (p * te'.cells.length + q) Go.undef, fun {w' S'} hS hF => ?_⟩
      refine ⟨_, capm, te', hνe, hte', hdm, hkm, hfm, hlm, hbm, fun _ => ⟨bm, vsm, φm, rfl, (hF bm hφbm).trans hhm, hszm, hφbm, fun p q x hp hq _ => hφsm p q x hp hq, fun p q p' q' x hp hq hp' hq' _ _ => hdjm p q p' q' x hp hq hp' hq', fun p q hp hq _ => (hrm p q hp hq).mono hS fun x hx => ⟨hx, hF x (hφsm p q x hp hq hx).1⟩, fun p q e' hp hq => ⟨rfl, ?_⟩⟩⟩
      exact (hrm p q hp (List.getElem?_eq_some_iff.1 hq).1).one
  obtain ⟨νm, hνm⟩ := hcells
  let n := s.objs.length
  let os' := s.objs.set o ob1 ++ [.row e md.down 0 ys]
  let g' : Gh := { η := g.η ++ [g.ν o i off], ν := fun k => if k = n then νm else g.ν k, φ := fun k x => if k = n then φ' x else if k = o then g.φ o x ∧ ¬ φ' x else g.φ k x }
  have hno : o ≠ n := by show o ≠ s.objs.length; omega
  have hlen' : os'.length = s.objs.length + 1 := by simp [os']
  have at_o : os'[o]? = some ob1 := by
    show (s.objs.set o _ ++ [_])[o]? = _
    rw [List.getElem?_append_left (by simp; omega), List.getElem?_set_self hol]
  have at_k : ∀ k, k < s.objs.length → k ≠ o → os'[k]? = s.objs[k]? := fun k hk hko => by
    show (s.objs.set o _ ++ [_])[k]? = _
    rw [List.getElem?_append_left (by simp; omega), List.getElem?_set_ne (Ne.symm hko)]
  have at_n : os'[n]? = some (.row e md.down 0 ys) := by
    show (s.objs.set o _ ++ [_])[s.objs.length]? = _
    rw [List.getElem?_append_right (by simp)]; simp
  have gφn : ∀ x, g'.φ n x ↔ φ' x := fun x => by simp [g']
  have gφo : ∀ x, g'.φ o x ↔ (g.φ o x ∧ ¬ φ' x) := fun x => by simp [g', hno]
  have gφk : ∀ k x, k ≠ n → k ≠ o → (g'.φ k x ↔ g.φ k x) := fun k x h1 h2 => by simp [g', h1, h2]
  have cls : ∀ k x, k < os'.length → g'.φ k x → ∃ k', k' < s.objs.length ∧ g.φ k' x := by
    intro k x hk hx
    by_cases h1 : k = n
    · subst h1; exact ⟨o, hol, hφ' x ((gφn x).1 hx)⟩
    · by_cases h2 : k = o
      · subst h2; exact ⟨k, hol, ((gφo x).1 hx).1⟩
      · exact ⟨k, by have : k ≠ s.objs.length := h1; omega, (gφk k x h1 h2).1 hx⟩
  have hcg : Chg c w g s.objs w g' os' := by
    refine ⟨by simp [g', os', hl], ⟨fun k v hv => ?_, fun k hk hdd => ?_, fun k T m hk hx => ?_, fun k T ver' m hk hx => ?_⟩, fun x ⟨k, hk, hx⟩ => .inl (cls k x hk hx), fun x ⟨k, hk, hx⟩ => ?_, fun _ _ _ => rfl, Nat.le_refl _, rfl, rfl, rfl, fun k k' x hk hk' hx hx' => ?_⟩
    · have := (List.getElem?_eq_some_iff.1 hv).1
      show (g.η ++ _)[k]? = _
      rw [List.getElem?_append_left this]; exact hv
    · have hko : k ≠ o := by rintro rfl; rw [ho] at hdd; cases hdd; exact hd0 rfl
      rw [at_k k (by omega) hko]; exact hdd
    · by_cases hko : k = o
      · subst hko; exact h3 _ T m at_o hx
      · exact isR3_same (at_k k (by omega) hko) hx
    · have hkn : k ≠ n := by show k ≠ s.objs.length; omega
      by_cases hko : k = o
      · subst hko
        exact ⟨ver', Nat.le_refl _, hrh _ T ver' m at_o hx, fun _ => by simp [g', hkn]⟩
      · exact ⟨ver', Nat.le_refl _, isRH_same (at_k k (by omega) hko) hx, fun _ => by simp [g', hkn]⟩
    · obtain ⟨k', h1, h2⟩ := cls k x hk hx
      exact (hs.inv.own k' x h1 h2).2
    · rw [hlen'] at hk hk'
      have key : ∀ {k : Nat}, k < s.objs.length + 1 → k ≠ n → g'.φ k x → φ' x → False := by
        intro k hk hkn hx hf
        by_cases h2 : k = o
        · subst h2; exact ((gφo x).1 hx).2 hf
        · have hk2 : k < s.objs.length := by have : k ≠ s.objs.length := hkn; omega
          exact h2 (hs.inv.dj k o x hk2 hol ((gφk k x hkn h2).1 hx) (hφ' x hf))
      by_cases h1 : k = n <;> by_cases h2 : k' = n
      · rw [h1, h2]
      · subst h1; exact (key hk' h2 hx' ((gφn x).1 hx)).elim
      · subst h2; exact (key hk h1 hx ((gφn x).1 hx')).elim
      · have e1 : ∀ {k : Nat}, k < s.objs.length + 1 → k ≠ n → g'.φ k x → k < s.objs.length ∧ g.φ k x := by
          intro k hk hkn hx
          refine ⟨by have : k ≠ s.objs.length := hkn; omega, ?_⟩
          by_cases h3 : k = o
          · subst h3; exact ((gφo x).1 hx).1
          · exact (gφk k x hkn h3).1 hx
        obtain ⟨a1, a2⟩ := e1 hk h1 hx
        obtain ⟨a3, a4⟩ := e1 hk' h2 hx'
        exact hs.inv.dj k k' x a1 a3 a2 a4
  refine ⟨g', hs.chg hcg fun k ob v h1 h2 => ?_, hcg.stp hs.inv, rfl, by simp [g', hno], fun k x hko hk => gφk k x (by show k ≠ s.objs.length; omega) hko⟩
  by_cases hkn : k = n
  · subst hkn
    right
    rw [at_n] at h1
    cases h1
    have hv : v = g.ν o i off := by
      have e1 : (g.η ++ [g.ν o i off])[s.objs.length]? = some v := h2
      rw [← hl] at e1
      simpa using e1.symm
    subst hv
    have e1 : g'.φ n = φ' := by funext x; exact propext (gφn x)
    have e2 : g'.ν n = νm := by simp [g']
    show RowX _ _ _ _ _ _ _ _ _ _
    rw [e1, e2]
    exact hνm (hcg.now hs.inv) (fun _ _ => rfl)
  · have hkl : k < s.objs.length := by
      have := ob_lt h1
      rw [hlen'] at this
      have : k ≠ s.objs.length := hkn
      omega
    by_cases hko : k = o
    · subst hko
      right
      rw [at_o] at h1
      cases h1
      have hv : v = v0 := by
        have := hcg.later.ext k _ hv0
        rw [h2] at this
        cases this; rfl
      subst hv
      exact hob g' os' _ _ hv0 (fun b hb => (hcg.now hs.inv b hb).1) gφo (by simp [g', hkn])
    · left
      rw [at_k k hkl hko] at h1
      exact ⟨h1, by omega, by simp [g', hkn], fun x hx => ⟨(gφk k x hkn hko).2 hx, rfl⟩⟩
theorem open_step {nt : Nat} {a : Act} {s : St} (hs : RepSt tt c w g nt a s) {o i off : Nat} {T0 e : TypeId} {md : Md} {ver : Nat} {xs0 : List (List D)} (ho : s.objs[o]? = some (.row T0 md ver xs0)) (hz : md.isZ = false) {ti te : TI} (hi : i < xs0.length) (ht : tt T0 = some ti) (he : ti.cells[off]? = some (.list e))
    (hte : tt e = some te) (hde : dataKs te.cells = true) (hke : 0 < te.cells.length) :
    ∃ g', RepSt tt c w g' nt a ⟨s.tmps, s.objs.set o (.hole T0 md ver xs0 i off) ++ [.row e md.down 0 (nstF xs0 i off)]⟩ ∧ Stp c w g s.objs w g' (s.objs.set o (.hole T0 md ver xs0 i off) ++ [.row e md.down 0 (nstF xs0 i off)]) ∧
      g'.η = g.η ++ [g.ν o i off] ∧ g'.ν o = g.ν o ∧ (∀ k b, k ≠ o → k < s.objs.length → (g'.φ k b ↔ g.φ k b)) := by
  obtain ⟨v0, hv0⟩ := hs.inv.eta ho
  have hoff : off < ti.cells.length := (List.getElem?_eq_some_iff.1 he).1
  obtain ⟨a0, cap0, ti', rfl, ht', hd, hk, hfit, hle, hbg, hc⟩ := hs.inv.ob o _ v0 ho hv0
  rw [ht] at ht'; cases ht'
  obtain ⟨b, vs, φs, rfl, hh, hsz, hφb, hφs, hdj, hr, hν⟩ := hc (by omega)
  obtain ⟨ys, hys⟩ := fitsAll_at (hfit i hi) off _ he
  have hn : nstF xs0 i off = ys := by unfold nstF; rw [hys]; rfl
  have hw := hr i off hi hoff (fun h => h)
  rw [(hν i off e hi he).1, hys] at hw
  rw [hn]
  have hφ' : ∀ x, φs i off x → g.φ o x ∧ x ≠ b := fun x hx => hφs i off x hi hoff (fun h => h) hx
  refine open_gen hs ho (by simp) hw hz (fun x hx => (hφ' x hx).1) hte hde hke (fun os' T n h hx => ?_) (fun os' T v n h hx => ?_) (fun g' os' S' v hv hS hφ hν' => ?_)
  · rcases hx with ⟨_, _, _, q, _⟩ | ⟨_, _, _, _, _, q, rfl⟩ | ⟨_, q, _⟩ <;> rw [h] at q <;> cases q
    exact .inl ⟨md, ver, xs0, ho, rfl⟩
  · rcases hx with ⟨_, _, q, _⟩ | ⟨_, _, _, _, q, rfl⟩ | ⟨_, _, _, q, _⟩ | ⟨_, _, _, _, q, _⟩ <;> rw [h] at q <;> cases q
    exact .inl ⟨md, xs0, ho, rfl⟩
  · rw [hv0] at hv; cases hv
    show RowX _ _ _ _ _ _ _ _ _ _
    rw [hν']
    refine ⟨_, cap0, ti, rfl, ht, hd, hk, hfit, hle, hbg, fun _ => ⟨b, vs, φs, rfl, hh, hsz, (hφ b).2 ⟨hφb, fun h => (hφ' b h).2 rfl⟩, fun p q x hp hq hsk hx => ?_, fun p q p' q' x hp hq hp' hq' _ _ => hdj p q p' q' x hp hq hp' hq' (fun h => h) (fun h => h), fun p q hp hq hsk => ?_, hν⟩⟩
    · have := hφs p q x hp hq (fun h => h) hx
      refine ⟨(hφ x).2 ⟨this.1, fun hf => hsk ?_⟩, this.2⟩
      obtain ⟨rfl, rfl⟩ := hdj p q i off x hp hq hi hoff (fun h => h) (fun h => h) hx hf
      exact ⟨rfl, rfl⟩
    · exact (hr p q hp hq (fun h => h)).mono (fun b hb => ⟨hS b hb, rfl⟩) fun x hx => ⟨hx, rfl⟩
/-- The same of a slice in a map's entry. -/
theorem open_map {nt : Nat} {a : Act} {s : St} (hs : RepSt tt c w g nt a s) {o i : Nat} {K V e : TypeId} {md : Md} {ver : Nat} {es : List (D × D)} (ho : s.objs[o]? = some (.map K V md ver es)) (hz : md.isZ = false) {ti te : TI} (hi : i < es.length) (ht : tt V = some ti) (he : ti.cells[0]? = some (.list e))
    (hte : tt e = some te) (hde : dataKs te.cells = true) (hke : 0 < te.cells.length) :
    ∃ g', RepSt tt c w g' nt a ⟨s.tmps, s.objs.set o (.maph K V md ver es i) ++ [.row e md.down 0 (mapF es i)]⟩ ∧ Stp c w g s.objs w g' (s.objs.set o (.maph K V md ver es i) ++ [.row e md.down 0 (mapF es i)]) ∧
      g'.η = g.η ++ [g.ν o i 0] ∧ g'.ν o = g.ν o ∧ (∀ k b, k ≠ o → k < s.objs.length → (g'.φ k b ↔ g.φ k b)) := by
  obtain ⟨v0, hv0⟩ := hs.inv.eta ho
  obtain ⟨b, ents, clock, ck, cv, φs, rfl, hh, hk, hφb, hsz, hφs, hdj, hr⟩ := hs.inv.ob o _ v0 ho hv0
  have hcv := mapOK_cv hk ht he
  subst hcv
  obtain ⟨m, h1, h2, ⟨ys, hys⟩, h4, h5, h6, h7⟩ := hr i es[i] (List.getElem?_eq_getElem hi)
  have hn : mapF es i = ys := by unfold mapF; rw [show es.getD i (.z, .z) = es[i] by simp [List.getD_eq_getElem?_getD, hi], hys]; rfl
  have hw := h5 (fun h => h)
  rw [hys, ← h6] at hw
  rw [hn]
  have hφ' : ∀ x, φs i x → g.φ o x ∧ x ≠ b := fun x hx => hφs i x hi (fun h => h) hx
  refine open_gen hs ho (by simp) hw hz (fun x hx => (hφ' x hx).1) hte hde hke (fun os' T n h hx => ?_) (fun os' T v n h hx => ?_) (fun g' os' S' v hv hS hφ hν' => ?_)
  · rcases hx with ⟨_, _, _, q, _⟩ | ⟨_, _, _, _, _, q, rfl⟩ | ⟨_, q, _⟩ <;> rw [h] at q <;> cases q
  · rcases hx with ⟨_, _, q, _⟩ | ⟨_, _, _, _, q, rfl⟩ | ⟨_, _, _, q, _⟩ | ⟨_, _, _, _, q, hn⟩ <;> rw [h] at q <;> cases q
    exact .inr (.inr (.inl ⟨K, md, es, ho, hn⟩))
  · rw [hv0] at hv; cases hv
    show MapX _ _ _ _ _ _ _ _ _ _ _
    rw [hν']
    refine ⟨b, ents, clock, ck, .list e, φs, rfl, hh, hk, (hφ b).2 ⟨hφb, fun h => (hφ' b h).2 rfl⟩, hsz, fun p x hp hsk hx => ?_, fun p p' x hp hp' _ _ => hdj p p' x hp hp' (fun h => h) (fun h => h), fun p e hp => ?_⟩
    · have := hφs p x hp (fun h => h) hx
      exact ⟨(hφ x).2 ⟨this.1, fun hf => hsk (hdj p i x hp hi (fun h => h) (fun h => h) hx hf)⟩, this.2⟩
    · obtain ⟨m, q1, q2, q3, q4, q5, q6⟩ := hr p e hp
      exact ⟨m, q1, q2, q3, q4.mono fun b hb => ⟨hS b hb, rfl⟩, fun _ => (q5 fun h => h).mono (fun b hb => ⟨hS b hb, rfl⟩) fun x hx => ⟨hx, rfl⟩, q6⟩

theorem shut_step {nt : Nat} {a : Act} {s : St} (hs : RepSt tt c w g nt a s) {o m i off : Nat} {T0 e : TypeId} {md md' : Md} {ver ver2 : Nat} {xs0 ys : List (List D)} (ho : s.objs[o]? = some (.hole T0 md ver xs0 i off)) (hm : s.objs[m]? = some (.row e md' ver2 ys)) (hmd : md'.up = md)
    (hη : g.η[m]? = some (g.ν o i off)) (hi : i < xs0.length) {ti : TI} (ht : tt T0 = some ti) (he : ti.cells[off]? = some (.list e)) :
    ∃ g', RepSt tt c w g' nt a ⟨s.tmps, (s.objs.set o (.row T0 md ver (xs0.set i ((xs0.getD i []).set off (.list e ys))))).set m .dead⟩ ∧ Stp c w g s.objs w g' ((s.objs.set o (.row T0 md ver (xs0.set i ((xs0.getD i []).set off (.list e ys))))).set m .dead) := by
  have hmo : m ≠ o := by rintro rfl; rw [ho] at hm; cases hm
  have hol := ob_lt ho
  have hoff : off < ti.cells.length := (List.getElem?_eq_some_iff.1 he).1
  have hXm : RowX tt w (Now c w g s.objs.length) (fun _ _ => False) md' (g.ν o i off) e ys (g.φ m) (g.ν m) := hs.inv.ob m _ _ hm hη
  have hs1 := hs.die hm
  have hc1 := Chg.die hs.inv hm
  have ho1 : (s.objs.set m .dead)[o]? = some (.hole T0 md ver xs0 i off) := by rw [List.getElem?_set_ne hmo]; exact ho
  obtain ⟨v0, hv0⟩ := hs1.inv.eta ho1
  obtain ⟨a0, cap0, ti', rfl, ht', hd, hk, hfit, hle, hbg, hc⟩ := hs1.inv.ob o _ v0 ho1 hv0
  rw [ht] at ht'; cases ht'
  obtain ⟨b, vs, φs, rfl, hh, hsz, hφb, hφs, hdj, hr, hν⟩ := hc (by omega)
  have hlen : (xs0.getD i []).length = ti.cells.length := fitsAll_length (hfit i hi)
  let xs' := xs0.set i ((xs0.getD i []).set off (.list e ys))
  have hxl : xs'.length = xs0.length := by simp [xs']
  have hxg : ∀ p q, (xs'.getD p []).getD q .z = if p = i ∧ q = off then .list e ys else (xs0.getD p []).getD q .z := by
    intro p q
    show ((xs0.set i _).getD p []).getD q .z = _
    rw [set_row_getD hi]
    by_cases hp : p = i
    · subst hp
      rw [if_pos rfl]
      by_cases hq : q = off
      · subst hq
        rw [if_pos ⟨rfl, rfl⟩]
        exact getD_set_self (by rw [hlen]; exact hoff) _
      · rw [if_neg (fun h => hq h.2)]
        simp [List.getD_eq_getElem?_getD, List.getElem?_set_ne (Ne.symm hq)]
    · rw [if_neg hp, if_neg (fun h => hp h.1)]
  let ob' : Ob := .row T0 md ver xs'
  have self : ((s.objs.set m .dead).set o ob')[o]? = some ob' := List.getElem?_set_self (ob_lt ho1)
  have hΨo : ∀ x, g.φ m x → ¬ g.φ o x := fun x h1 h2 => hmo (hs.inv.dj m o x (ob_lt hm) hol h1 h2)
  have hΨ : ∀ x, g.φ m x → ∃ k, (s.objs.set m .dead)[k]? = some .dead ∧ g.φ k x := fun x hx => ⟨m, List.getElem?_set_self (ob_lt hm), hx⟩
  have h3 : ∀ T2 n, isR3 ((s.objs.set m .dead).set o ob') o T2 n → isR3 (s.objs.set m .dead) o T2 n := fun T2 n hx => by
    obtain ⟨rfl, rfl⟩ := isR3_row self hx
    exact .inr (.inl ⟨md, ver, xs0, i, off, ho1, hxl.symm⟩)
  have hrh : ∀ T2 ver2 n, isRH ((s.objs.set m .dead).set o ob') o T2 ver2 n → ∃ ver, ver ≤ ver2 ∧ isRH (s.objs.set m .dead) o T2 ver n ∧ (ver2 = ver → g.ν o = g.ν o) := fun T2 ver2 n hx => by
    obtain ⟨rfl, rfl, rfl⟩ := isRH_row self hx
    exact ⟨_, Nat.le_refl _, .inr (.inl ⟨md, xs0, i, off, ho1, hxl.symm⟩), fun _ => rfl⟩
  have hcg2 : Chg c w g (s.objs.set m .dead) w (g.upd o (g.ν o) (fun x => g.φ o x ∨ g.φ m x) (g.φ m)) ((s.objs.set m .dead).set o ob') := .upd hs1.inv ho1 (by simp) (Nat.le_refl _) (fun _ _ _ _ => rfl) rfl rfl rfl hΨ (fun x hx => hx.elim .inl fun h => .inr (.inl h)) h3 hrh
  have hfin := hs1.upd (ob := ob') ho1 (by simp) (Nat.le_refl _) (fun _ _ _ _ => rfl) rfl rfl rfl hΨ (fun x hx => hx.elim .inl fun h => .inr (.inl h)) h3 hrh (ν0 := g.ν o) (φ0 := fun x => g.φ o x ∨ g.φ m x) fun v hv => by
    have hv : g.η[o]? = some v := hv
    rw [hv0] at hv
    cases hv
    have e2 : (g.upd o (g.ν o) (fun x => g.φ o x ∨ g.φ m x) (g.φ m)).ν o = g.ν o := by simp [Gh.upd]
    have e3 : ∀ x, (g.upd o (g.ν o) (fun x => g.φ o x ∨ g.φ m x) (g.φ m)).φ o x ↔ (g.φ o x ∨ g.φ m x) := fun x => by simp [Gh.upd]
    show RowX _ _ _ _ _ _ _ _ _ _
    rw [e2]
    refine ⟨_, cap0, ti, by rw [hxl], ht, hd, hk, fun p hp => ?_, by rw [hxl]; exact hle, by rw [hxl]; exact hbg, fun _ => ⟨b, vs, fun p q => if p = i ∧ q = off then g.φ m else φs p q, rfl, hh, hsz, (e3 b).2 (.inl hφb), fun p q x hp hq _ hx => ?_, fun p q p' q' x hp hq hp' hq' _ _ hx hx' => ?_, fun p q hp hq _ => ?_, fun p q e' hp hq => hν p q e' (by rw [← hxl]; exact hp) hq⟩⟩
    · rw [hxl] at hp
      refine fitsAll_of ?_ fun q k hq => ?_
      · show ((xs0.set i _).getD p []).length = _
        rw [set_row_getD hi]
        split
        · simpa using hlen
        · exact fitsAll_length (hfit p hp)
      · rw [hxg]
        by_cases h : p = i ∧ q = off
        · rw [if_pos h]
          rw [h.2, he] at hq
          cases hq
          exact ⟨ys, rfl⟩
        · rw [if_neg h]
          exact fitsAll_at (hfit p hp) q k hq
    · rw [hxl] at hp
      rw [e3]
      by_cases h : p = i ∧ q = off
      · simp only [if_pos h] at hx
        exact ⟨.inr hx, fun e => hΨo x hx (e ▸ hφb)⟩
      · simp only [if_neg h] at hx
        have := hφs p q x hp hq h hx
        exact ⟨.inl this.1, this.2⟩
    · rw [hxl] at hp hp'
      by_cases h : p = i ∧ q = off <;> by_cases h' : p' = i ∧ q' = off
      · exact ⟨by rw [h.1, h'.1], by rw [h.2, h'.2]⟩
      · simp only [if_pos h] at hx
        simp only [if_neg h'] at hx'
        exact (hΨo x hx (hφs p' q' x hp' hq' h' hx').1).elim
      · simp only [if_neg h] at hx
        simp only [if_pos h'] at hx'
        exact (hΨo x hx' (hφs p q x hp hq h hx).1).elim
      · simp only [if_neg h] at hx
        simp only [if_neg h'] at hx'
        exact hdj p q p' q' x hp hq hp' hq' h h' hx hx'
    · rw [hxl] at hp
      rw [hxg]
      by_cases h : p = i ∧ q = off
      · simp only [if_pos h]
        obtain ⟨rfl, rfl⟩ := h
        rw [(hν p q e hi he).1, ← hmd]
        exact hXm.repW.mono (fun x hx => (hcg2.now hs1.inv x (hc1.now hs.inv x hx).1)) fun x hx => ⟨hx, rfl⟩
      · simp only [if_neg h]
        exact (hr p q hp hq h).mono (hcg2.now hs1.inv) fun x hx => ⟨hx, rfl⟩
  have ecomm : (s.objs.set m .dead).set o ob' = (s.objs.set o ob').set m .dead := List.set_comm _ _ hmo
  rw [ecomm] at hfin hcg2
  exact ⟨_, hfin, (hc1.stp hs.inv).trans (hcg2.stp hs1.inv)⟩

end Go.Proofs.EN
