/- Contracts of functions of this program, by the evaluator EN. No conditions but those that each theorem states. -/
import Derived.Test.YtekcghhacpllaaaGreatDoorEN19
import Derived.MapKept
/- Maps: looked up, written. -/
namespace Go.Proofs.EN
open Go
set_option linter.unusedVariables false
set_option linter.unusedSimpArgs false
variable {tt : TypeId → Option TI} {P : Program} {c : Ctx} {w : World} {g : Gh} {os : List Ob} {S : Nat → Prop}

def kV : D → Value
  | .str l => .string ⟨l.toArray⟩
  | .int k n => .int k n
  | _ => .nilIface
inductive KeyKind : TypeDesc → CK → Prop
  | str : KeyKind .string .str
  | int (q : IntKind) : KeyKind (.int q) (.int q)
theorem mapKV_inv {T K V : TypeId} {ck cv : CK} (h : mapKV tt T = some (K, V, ck, cv)) : ∃ cs by', tt T = some ⟨.map K V, cs, by'⟩ ∧ mapOK tt K V = some (ck, cv) := by
  unfold mapKV at h
  split at h
  · rename_i K' V' cs by' hT
    split at h
    · rename_i ck' cv' hok
      simp only [Option.some.injEq, Prod.mk.injEq] at h
      obtain ⟨rfl, rfl, rfl, rfl⟩ := h
      exact ⟨cs, by', hT, hok⟩
    · cases h
  · cases h
theorem keyK_ud (hT : TTok P tt) {K : TypeId} {tk : TI} {ck : CK} (hti : tt K = some tk) (h : keyK tk.uk = some ck) : ∃ d, P.underlying K = some d ∧ KeyKind d ck := by
  obtain ⟨info, hi⟩ := hT K _ hti
  have hu := hi.uk
  unfold keyK at h
  split at h
  · rename_i hk
    cases h
    rw [hk] at hu
    exact ⟨_, hu.1, .str⟩
  · rename_i q hk
    cases h
    rw [hk] at hu
    exact ⟨_, hu.1, .int q⟩
  · cases h
theorem key_rep {kd : TypeDesc} {ck : CK} (hk : KeyKind kd ck) {x : D} {v : Value} (hf : ck.fits x) (hr : Rep tt w S v x) : v = kV x := by
  cases hk with
  | str => obtain ⟨l, rfl⟩ := hf; exact hr.str_inv
  | int q => obtain ⟨n, rfl⟩ := hf; exact hr.int_inv
theorem keyFit_fits {kd : TypeDesc} {ck : CK} (hk : KeyKind kd ck) {x : D} (h : keyFit ck x = true) : ck.fits x := by
  cases hk with
  | str =>
    cases x with
    | str l => exact ⟨l, rfl⟩
    | _ => cases h
  | int q =>
    cases x with
    | int j n =>
      have : j = q := ikBeq_eq h
      subst this
      exact ⟨n, rfl⟩
    | _ => cases h
theorem ba_beq (a b : Str) : ((⟨a.toArray⟩ : ByteArray) == ⟨b.toArray⟩) = decide (a = b) := by
  rw [Bool.eq_iff_iff, MapKept.bytes_beq]; simp
theorem same_eq {kd : TypeDesc} {ck : CK} (hk : KeyKind kd ck) {a b : D} (ha : ck.fits a) (hb : ck.fits b) : Instr.sameNow kd (kV a) (kV b) = some (keyEq b a) := by
  cases hk with
  | str =>
    obtain ⟨l, rfl⟩ := ha
    obtain ⟨r, rfl⟩ := hb
    by_cases h : l = r
    · subst h; simp [Instr.sameNow, kV, keyEq, ba_beq]
    · have h2 : ¬ r = l := fun e => h e.symm
      simp [Instr.sameNow, kV, keyEq, ba_beq, h, h2]
  | int q =>
    obtain ⟨l, rfl⟩ := ha
    obtain ⟨r, rfl⟩ := hb
    by_cases h : l = r
    · subst h; simp [Instr.sameNow, kV, keyEq]
    · have h2 : ¬ r = l := fun e => h e.symm
      simp [Instr.sameNow, kV, keyEq, h, h2]
theorem keyEq_eq {kd : TypeDesc} {ck : CK} (hk : KeyKind kd ck) {a b : D} (ha : ck.fits a) (hb : ck.fits b) (h : keyEq a b = true) : a = b := by
  cases hk with
  | str => obtain ⟨l, rfl⟩ := ha; obtain ⟨r, rfl⟩ := hb; simpa [keyEq] using h
  | int q => obtain ⟨l, rfl⟩ := ha; obtain ⟨r, rfl⟩ := hb; simpa [keyEq] using h
theorem findNow_eq {kd : TypeDesc} {ck : CK} (hk : KeyKind kd ck) {k : D} (hf : ck.fits k) : ∀ (es : List (D × D)) (ents : List MapEntry) (n : Nat), ents.length = es.length → (∀ (i : Nat) (e : D × D), es[i]? = some e → ∃ m : MapEntry, ents[i]? = some m ∧ ck.fits e.1 ∧ m.key = kV e.1) →
    Instr.findNow kd (kV k) ents n = some ((mIx es k).map fun i => (i + n, (ents.getD i default).val))
  | [], ents, n, hl, _ => by
    have : ents = [] := List.eq_nil_of_length_eq_zero (by simpa using hl)
    subst this; rfl
  | e :: es, [], n, hl, _ => by simp at hl
  | e :: es, m :: ents, n, hl, h => by
    obtain ⟨m', h1, h2, h3⟩ := h 0 e rfl
    simp only [List.getElem?_cons_zero, Option.some.injEq] at h1
    subst h1
    have ih := findNow_eq hk hf es ents (n + 1) (by simpa using hl) (fun i e he => by simpa using h (i + 1) e (by simpa using he))
    simp only [Instr.findNow, h3, same_eq hk hf h2]
    cases hq : keyEq e.1 k with
    | true => simp [mIx, List.findIdx?_cons, hq]
    | false =>
      simp only [ih, mIx, List.findIdx?_cons, hq, Bool.false_eq_true, if_false, Option.map_map]
      congr 2
      funext i
      simp
      omega
theorem mIx_some {es : List (D × D)} {k : D} {i : Nat} (h : mIx es k = some i) : ∃ hi : i < es.length, keyEq es[i].1 k = true := by
  obtain ⟨hi, h1, _⟩ := List.findIdx?_eq_some_iff_getElem.1 h
  exact ⟨hi, h1⟩
theorem run_findKey' {K : TypeId} {kd : TypeDesc} {k : Value} {es : List MapEntry} {r : Option (Nat × Value)} (hu : P.underlying K = some kd) (h : Instr.findNow kd k es 0 = some r) : (Instr.findKey K k es).run P w = .ok r w := by
  simp [Instr.findKey, run_underlying hu, h]
theorem run_checkKey' {K : TypeId} {kd : TypeDesc} {ck : CK} {k : D} (hu : P.underlying K = some kd) (hk : KeyKind kd ck) (em : Bool) : (Instr.checkKey em 10000 K (kV k)).run P w = .ok () w := by
  show (Instr.checkKey em (9999 + 1) K _).run P w = _
  unfold Instr.checkKey
  cases hk <;> simp [run_underlying hu]
theorem run_stays {kd : TypeDesc} {ck : CK} (hk : KeyKind kd ck) {k : D} (hf : ck.fits k) : (Instr.keyThatStays (kV k) (kV k)).run P w = .ok (kV k) w := by
  cases hk with
  | str => obtain ⟨l, rfl⟩ := hf; simp [Instr.keyThatStays, kV, Instr.sameBits, ba_beq]
  | int q => obtain ⟨l, rfl⟩ := hf; simp [Instr.keyThatStays, kV, Instr.sameBits]

theorem elem_rep {md : Md} {v : Value} {d : D} {φ : Nat → Prop} (h : RepW tt w S md v d φ) (hz : md.isZ = true ∨ d.isL = false) : Rep tt w S v d := by
  cases h with
  | froz _ _ _ h => exact h
  | sc _ _ _ _ h _ => exact h
  | zero => exact .nil _ _ _
  | list m =>
    rcases hz with h | h
    · rw [isZ_up] at h; cases h
    · cases h
theorem pair_rep {v : Value} {x : C} (b : Bool) (h : RepC tt w S g os v x) : RepC tt w S g os (.tuple #[v, .bool b]) (.tuple [x, .d (.bool b)]) := by
  refine .tuple _ _ rfl fun i hi => ?_
  match i, hi with
  | 0, _ => exact h
  | 1, _ => exact rep_bool b
/-- What is looked up, with or without whether it is there. -/
theorem ok_rep {v : Value} {x : C} (ok b : Bool) {Kv : C → R} (h : RepC tt w S g os v x) (hK : bif ok then Kv (.tuple [x, .d (.bool b)]) else Kv x) : ∃ cv, RepC tt w S g os (if ok then .tuple #[v, .bool b] else v) cv ∧ Kv cv := by
  cases ok with
  | true => exact ⟨_, pair_rep b h, hK⟩
  | false => exact ⟨_, h, hK⟩

theorem evalLookup_sound (hT : TTok P tt) {E : Env} (hE : E.B.tt = tt) {T : TypeId} {s : St} {vx vk : Value} {cx ck : C} {ok : Bool} {Kv : C → R} (hI : Inv tt c w g s.objs)
    (h : evalLookup E T cx ck ok s Kv) (hx : RepC tt w (Now c w g s.objs.length) g s.objs vx cx) (hk : RepC tt w (Now c w g s.objs.length) g s.objs vk ck) :
    ∃ v cv, (Instr.lookup T vx vk ok).run P w = .ok v w ∧ RepC tt w (Now c w g s.objs.length) g s.objs v cv ∧ Kv cv := by
  unfold evalLookup at h
  rw [hE] at h
  split at h
  rotate_left
  · cases h
  rename_i K V kk kv o kd hm
  split at h
  rotate_left
  · cases h
  rename_i K' V' md ver es ho
  obtain ⟨hc, h'⟩ := bif_some h
  clear h
  have h := h'
  clear h'
  simp only [Bool.and_eq_true] at hc
  obtain ⟨⟨hK, hV⟩, hf⟩ := hc
  have hK := Nat.eq_of_beq_eq_true hK
  have hV := Nat.eq_of_beq_eq_true hV
  subst hK hV
  have ho' := getD_some ho (by simp)
  cases hx with
  | mp _ b hη =>
    obtain ⟨b', ents, clock, ck', cv', φs, hb', hh, hok, hφb, hsz, hφs, hdj, hr⟩ := hI.ob o _ _ ho' hη
    simp only [Value.map.injEq, Option.some.injEq] at hb'
    subst hb'
    obtain ⟨cs, by', hTm, hok2⟩ := mapKV_inv hm
    rw [hok] at hok2
    simp only [Option.some.injEq, Prod.mk.injEq] at hok2
    obtain ⟨rfl, rfl⟩ := hok2
    obtain ⟨tk, tv, h1, h2, h3, h4, h5, h6, _⟩ := mapOK_inv hok
    obtain ⟨d, hu, hkk⟩ := keyK_ud hT h1 h3
    have hfk := keyFit_fits hkk hf
    obtain rfl := key_rep hkk hfk hk.d_inv
    obtain ⟨infT, hTi⟩ := hT T _ hTm
    obtain ⟨infV, hVi⟩ := hT V _ h2
    have huT := hTi.uk.1
    obtain ⟨zv, hz, hzs, hzc⟩ := hVi.zero
    have hzv : zv = zeroV cv' := by
      have h1 := one_cells (hVi.zone h6 zv hz)
      have h2 := (hzc 0 cv' (by rw [h4]; rfl)).1 (by rintro rfl; cases h5)
      rw [h1] at h2
      simpa using h2
    have hzr : (zeroValue V).run P w = .ok (zeroV cv') w := by simp [zeroValue, typeInfo, hVi.inf, hz, hzv]
    have hfind := run_findKey' (w := w) hu (findNow_eq hkk hfk es ents.toList 0 (by simpa using hsz) fun i e he => by
      obtain ⟨m, q1, q2, q3, q4, _⟩ := hr i e he
      exact ⟨m, by simpa using q1, q2, key_rep hkk q2 q4⟩)
    have hck := run_checkKey' (P := P) (w := w) (k := kd) hu hkk ents.isEmpty
    have hget := MapKept.run_getObj_map (P := P) hh
    have hor : (∃ e, cv' = .list e ∧ md.isZ = false ∧ bsel (mHas es kd) (bif ok then Kv (.tuple [.nst e o ver ((mIx es kd).getD 0) 0, .d (.bool true)]) else Kv (.nst e o ver ((mIx es kd).getD 0) 0)) (bif ok then Kv (.tuple [.cap0, .d (.bool false)]) else Kv .cap0)) ∨
        ((md.isZ = true ∨ cv'.isL = false) ∧ bif ok then Kv (.tuple [.d (cv'.norm (mGet cv' es kd)), .d (.bool (mHas es kd))]) else Kv (.d (cv'.norm (mGet cv' es kd)))) := by
      cases hz : md.isZ with
      | true => rw [hz] at h; refine .inr ⟨.inl rfl, ?_⟩; cases cv' <;> exact h
      | false =>
        rw [hz] at h
        cases cv' with
        | list e => exact .inl ⟨e, rfl, rfl, h⟩
        | _ => exact .inr ⟨.inr rfl, h⟩
    clear h
    cases hix : mIx es kd with
    | none =>
      have hrun : (Instr.lookup T (.map (some b)) (kV kd) ok).run P w = .ok (if ok then .tuple #[zeroV cv', .bool false] else zeroV cv') w := by
        simp [Instr.lookup, run_underlying huT, hget, hck, hfind, hix, hzr]
      have hhas : mHas es kd = false := by simp [mHas, hix]
      have hgt : mGet cv' es kd = cv'.zero := by simp [mGet, hix]
      have zr : RepC tt w (Now c w g s.objs.length) g s.objs (zeroV cv') (.d (cv'.norm cv'.zero)) := by
        cases cv' with
        | bool => exact rep_bool false
        | int k => exact rep_int k 0
        | str => exact rep_str [] (by simp)
        | list e => exact .d _ _ (.nil _ _ _)
        | iface => exact .d _ _ .nilI
        | other => cases h5
      rcases hor with ⟨e, rfl, hz, h⟩ | ⟨hz, h⟩
      · rw [hhas] at h
        obtain ⟨cv, h7, h8⟩ := ok_rep ok false (RepC.cap0 none) h
        exact ⟨_, cv, hrun, h7, h8⟩
      · rw [hhas, hgt] at h
        obtain ⟨cv, h7, h8⟩ := ok_rep ok false zr h
        exact ⟨_, cv, hrun, h7, h8⟩
    | some i =>
      obtain ⟨hi, _⟩ := mIx_some hix
      obtain ⟨m, q1, q2, q3, q4, q5, q6, q7⟩ := hr i es[i] (List.getElem?_eq_getElem hi)
      have hem : (ents.toList.getD i default).val = m.val := by
        have : ents.toList[i]? = some m := by simpa using q1
        rw [List.getD_eq_getElem?_getD, this]; rfl
      have hrun : (Instr.lookup T (.map (some b)) (kV kd) ok).run P w = .ok (if ok then .tuple #[m.val, .bool true] else m.val) w := by
        rw [hix] at hfind
        simp only [Option.map_some, hem] at hfind
        simp [Instr.lookup, run_underlying huT, hget, hck, hfind]
      have hhas : mHas es kd = true := by simp [mHas, hix]
      have hgt : mGet cv' es kd = es[i].2 := by simp [mGet, hix, List.getD_eq_getElem?_getD, hi]
      rcases hor with ⟨e, rfl, hz, h⟩ | ⟨hz, h⟩
      · rw [hhas, hix] at h
        have hre : RepC tt w (Now c w g s.objs.length) g s.objs m.val (.nst e o ver i 0) := by
          refine .nst _ e o ver i 0 (by have := hI.len; have := ob_lt ho'; omega) (fun T2 ver2 n2 hq => ?_) q7
          obtain ⟨rfl, hn, rfl⟩ := isRH_map ho' hq
          exact ⟨Nat.le_refl _, fun _ => ⟨q6.symm, by omega, tv, h2, by rw [h4]; rfl⟩⟩
        obtain ⟨cv, h7, h8⟩ := ok_rep ok true hre h
        exact ⟨_, cv, hrun, h7, h8⟩
      · rw [hhas, hgt, CK.norm_fits q3] at h
        have hre : Rep tt w (Now c w g s.objs.length) m.val es[i].2 := elem_rep (q5 fun h => h) (hz.imp id fun hl => by rw [CK.fits_isL q3]; exact hl)
        obtain ⟨cv, h7, h8⟩ := ok_rep ok true (RepC.d _ _ hre) h
        exact ⟨_, cv, hrun, h7, h8⟩

/-- A map is written. -/
theorem map_write (hT : TTok P tt) {T K V : TypeId} {cs : List CK} {by' : Nat} (hTm : tt T = some ⟨.map K V, cs, by'⟩) {nt : Nat} {a : Act} {s : St} (hs : RepSt tt c w g nt a s) {o b : Nat} {md : Md} {ver : Nat} {es : List (D × D)} {ob0 : Ob} {sk : Nat → Prop} (ho : s.objs[o]? = some ob0) (hd0 : ob0 ≠ .dead)
    (hη : g.η[o]? = some (.map (some b))) (hX : MapX tt w (Now c w g s.objs.length) sk md (.map (some b)) K V es (g.φ o) (g.ν o)) (hrh0 : ∀ n, es.length ≤ n → isRH s.objs o V ver n) {ck cv : CK} (hok : mapOK tt K V = some (ck, cv)) {kd d : D} (hf : keyFit ck kd = true) (hfd : cv.fits d) {vk vv : Value}
    (hvk : Rep tt w (Now c w g s.objs.length) vk kd) {φ' : Nat → Prop} (hw : RepW tt w (Now c w g s.objs.length) md vv d φ') (hΨ : ∀ x, φ' x → ∃ m, s.objs[m]? = some .dead ∧ g.φ m x) (hsk : ∀ i, sk i → mIx es kd = some i) :
    ∃ w' g', (Instr.mapUpdate T (.map (some b)) vk vv).run P w = .ok () w' ∧ RepSt tt c w' g' nt a ⟨s.tmps, s.objs.set o (.map K V md (ver + 1) (mPut es kd d))⟩ ∧ Stp c w g s.objs w' g' (s.objs.set o (.map K V md (ver + 1) (mPut es kd d))) := by
  obtain ⟨b', ents, clock, ck', cv', φs, hb', hh, hok', hφb, hsz, hφs, hdj, hr⟩ := hX
  simp only [Value.map.injEq, Option.some.injEq] at hb'
  subst hb'
  rw [hok] at hok'
  simp only [Option.some.injEq, Prod.mk.injEq] at hok'
  obtain ⟨rfl, rfl⟩ := hok'
  obtain ⟨tk, tv, h1, h2, h3, h4, h5, h6, _⟩ := mapOK_inv hok
  obtain ⟨dsc, hu, hkk⟩ := keyK_ud hT h1 h3
  have hfk := keyFit_fits hkk hf
  obtain rfl := key_rep hkk hfk hvk
  obtain ⟨infT, hTi⟩ := hT T _ hTm
  have huT := hTi.uk.1
  have hfind := run_findKey' (w := w) hu (findNow_eq hkk hfk es ents.toList 0 (by simpa using hsz) fun i e he => by
    obtain ⟨m, q1, q2, q3, q4, _⟩ := hr i e he
    exact ⟨m, by simpa using q1, q2, key_rep hkk q2 q4⟩)
  have hck := run_checkKey' (P := P) (w := w) (k := kd) hu hkk false
  have hget := MapKept.run_getObj_map (P := P) hh
  have hol := ob_lt ho
  have hbl : b < w.heap.size := (Array.getElem?_eq_some_iff.1 hh).1
  have hφo : ∀ x, φ' x → ¬ g.φ o x := fun x hx hgo => by
    obtain ⟨m, q1, q2⟩ := hΨ x hx
    have := hs.inv.dj m o x (ob_lt q1) hol q2 hgo
    subst this
    rw [ho] at q1
    cases q1
    exact hd0 rfl
  -- behind the write
  have core : ∀ (ents' : Array MapEntry) (clock' i0 : Nat), ents'.size = (mPut es kd d).length → es.length ≤ (mPut es kd d).length →
      (∀ p e, (mPut es kd d)[p]? = some e → (p = i0 ∧ e.2 = d ∧ ck.fits e.1 ∧ ∃ m, ents'[p]? = some m ∧ m.val = vv ∧ Rep tt w (Now c w g s.objs.length) m.key e.1) ∨ (p ≠ i0 ∧ ¬ sk p ∧ es[p]? = some e ∧ ents'[p]? = ents[p]?)) →
      ∃ g', RepSt tt c { w with heap := w.heap.setIfInBounds b (.map ents' clock') } g' nt a ⟨s.tmps, s.objs.set o (.map K V md (ver + 1) (mPut es kd d))⟩ ∧ Stp c w g s.objs { w with heap := w.heap.setIfInBounds b (.map ents' clock') } g' (s.objs.set o (.map K V md (ver + 1) (mPut es kd d))) := by
    intro ents' clock' i0 hl' hle H
    have self : (s.objs.set o (.map K V md (ver + 1) (mPut es kd d)))[o]? = some (.map K V md (ver + 1) (mPut es kd d)) := List.getElem?_set_self hol
    have h3 : ∀ T2 n, isR3 (s.objs.set o (.map K V md (ver + 1) (mPut es kd d))) o T2 n → isR3 s.objs o T2 n := fun T2 n hx => by
      rcases hx with ⟨_, _, _, q, _⟩ | ⟨_, _, _, _, _, q, _⟩ | ⟨_, q, _⟩ <;> rw [self] at q <;> cases q
    let ν' : Nat → Nat → Value := fun p _ => ((ents'[p]?).map (·.val)).getD Go.undef
    have hrh : ∀ T2 ver2 n, isRH (s.objs.set o (.map K V md (ver + 1) (mPut es kd d))) o T2 ver2 n → ∃ ver, ver ≤ ver2 ∧ isRH s.objs o T2 ver n ∧ (ver2 = ver → ν' = g.ν o) := fun T2 ver2 n hx => by
      obtain ⟨rfl, hn, rfl⟩ := isRH_map self hx
      exact ⟨ver, by omega, hrh0 n (by omega), fun h => by omega⟩
    have hheap : ∀ k, k ≠ b → ({ w with heap := w.heap.setIfInBounds b (.map ents' clock') } : World).heap[k]? = w.heap[k]? := fun k hk => by
      simp [Array.getElem?_setIfInBounds_ne (Ne.symm hk)]
    have hheap' : ∀ k, k < w.heap.size → ¬ φ' k → ¬ g.φ o k → ({ w with heap := w.heap.setIfInBounds b (.map ents' clock') } : World).heap[k]? = w.heap[k]? := fun k _ _ hk => hheap k fun e => hk (e ▸ hφb)
    have hself : ({ w with heap := w.heap.setIfInBounds b (.map ents' clock') } : World).heap[b]? = some (.map ents' clock') := by simp [hbl]
    have hc : Chg c w g s.objs { w with heap := w.heap.setIfInBounds b (.map ents' clock') } (g.upd o ν' (fun x => g.φ o x ∨ φ' x) φ') (s.objs.set o (.map K V md (ver + 1) (mPut es kd d))) :=
      .upd hs.inv ho hd0 (by simp) hheap' rfl rfl rfl hΨ (fun x hx => hx.elim .inl fun h => .inr (.inl h)) h3 hrh
    refine ⟨_, hs.upd ho hd0 (by simp) hheap' rfl rfl rfl hΨ (fun x hx => hx.elim .inl fun h => .inr (.inl h)) h3 hrh fun v hv => ?_, hc.stp hs.inv⟩
    rw [hη] at hv
    cases hv
    have e2 : (g.upd o ν' (fun x => g.φ o x ∨ φ' x) φ').ν o = ν' := by simp [Gh.upd]
    have e3 : ∀ x, (g.upd o ν' (fun x => g.φ o x ∨ φ' x) φ').φ o x ↔ (g.φ o x ∨ φ' x) := fun x => by simp [Gh.upd]
    have hnow := hc.now hs.inv
    have notb : ∀ {x}, φ' x → x ≠ b := fun {x} hx e => hφo x hx (e ▸ hφb)
    show MapX _ _ _ _ _ _ _ _ _ _ _
    rw [e2]
    refine ⟨b, ents', clock', ck, cv, fun p => if p = i0 then φ' else φs p, rfl, hself, hok, (e3 b).2 (.inl hφb), hl', fun p x hp _ hx => ?_, fun p p' x hp hp' _ _ hx hx' => ?_, fun p e he => ?_⟩
    · rw [e3]
      rcases H p _ (List.getElem?_eq_getElem hp) with ⟨q1, _⟩ | ⟨q1, q2, q3, _⟩
      · simp only [if_pos q1] at hx
        exact ⟨.inr hx, notb hx⟩
      · simp only [if_neg q1] at hx
        have := hφs p x (List.getElem?_eq_some_iff.1 q3).1 q2 hx
        exact ⟨.inl this.1, this.2⟩
    · rcases H p _ (List.getElem?_eq_getElem hp) with ⟨q1, _⟩ | ⟨q1, q2, q3, _⟩ <;> rcases H p' _ (List.getElem?_eq_getElem hp') with ⟨r1, _⟩ | ⟨r1, r2, r3, _⟩
      · rw [q1, r1]
      · simp only [if_pos q1] at hx
        simp only [if_neg r1] at hx'
        exact (hφo x hx (hφs p' x (List.getElem?_eq_some_iff.1 r3).1 r2 hx').1).elim
      · simp only [if_neg q1] at hx
        simp only [if_pos r1] at hx'
        exact (hφo x hx' (hφs p x (List.getElem?_eq_some_iff.1 q3).1 q2 hx).1).elim
      · simp only [if_neg q1] at hx
        simp only [if_neg r1] at hx'
        exact hdj p p' x (List.getElem?_eq_some_iff.1 q3).1 (List.getElem?_eq_some_iff.1 r3).1 q2 r2 hx hx'
    · rcases H p e he with ⟨q1, q2, q3, m, q4, q5, q6⟩ | ⟨q1, q2, q3, q4⟩
      · refine ⟨m, q4, q3, by rw [q2]; exact hfd, q6.mono hnow, fun _ => ?_, by simp [ν', q4], by rw [q5]; exact hw.one⟩
        simp only [if_pos q1]
        rw [q5, q2]
        exact hw.mono hnow fun x hx => ⟨hx, hheap x (notb hx)⟩
      · obtain ⟨m, r1, r2, r3, r4, r5, r6, r7⟩ := hr p e q3
        refine ⟨m, by rw [q4]; exact r1, r2, r3, r4.mono hnow, fun _ => ?_, by simp [ν', q4, r1], r7⟩
        simp only [if_neg q1]
        exact (r5 q2).mono hnow fun x hx => ⟨hx, hheap x (hφs p x (List.getElem?_eq_some_iff.1 q3).1 q2 hx).2⟩
  cases hix : mIx es kd with
  | none =>
    have hput : mPut es kd d = es ++ [(kd, d)] := by simp [mPut, hix]
    obtain ⟨g', h7, h8⟩ := core (ents.push { key := kV kd, val := vv, born := clock }) (clock + 1) es.length (by simp [hput, hsz]) (by simp [hput]) fun p e he => by
      rw [hput] at he
      rcases getElem?_snoc he with ⟨q1, q2⟩ | ⟨q1, q2⟩
      · refine .inr ⟨by omega, (fun h => by rw [hsk p h] at hix; cases hix), q2, ?_⟩
        rw [Array.getElem?_push_lt (by omega), Array.getElem?_eq_getElem (by omega)]
      · subst q1 q2
        exact .inl ⟨rfl, rfl, hfk, { key := kV kd, val := vv, born := clock }, by rw [← hsz]; simp, rfl, hvk⟩
    refine ⟨_, g', ?_, h7, h8⟩
    rw [hix] at hfind
    simp only [Option.map_none] at hfind
    simp [Instr.mapUpdate, run_underlying huT, hget, hck, hfind, MapKept.run_setObj_map _ hh]
  | some i =>
    obtain ⟨hi, hke⟩ := mIx_some hix
    obtain ⟨m, q1, q2, q3, q4, _⟩ := hr i es[i] (List.getElem?_eq_getElem hi)
    have hkd : es[i].1 = kd := keyEq_eq hkk q2 hfk hke
    have hmk : m.key = kV kd := by rw [← hkd]; exact key_rep hkk q2 q4
    have hput : mPut es kd d = es.set i (es[i].1, d) := by simp [mPut, hix, List.getD_eq_getElem?_getD, hi]
    have hei : i < ents.size := by omega
    obtain ⟨g', h7, h8⟩ := core (ents.modify i fun e => { e with key := kV kd, val := vv }) clock i (by simp [hput, hsz]) (by simp [hput]) fun p e he => by
      rw [hput] at he
      by_cases hp : p = i
      · subst hp
        rw [List.getElem?_set_self hi] at he
        cases he
        refine .inl ⟨rfl, rfl, q2, { m with key := kV kd, val := vv }, ?_, rfl, by rw [hkd]; exact hvk⟩
        rw [Array.getElem?_modify]
        simp [q1]
      · rw [List.getElem?_set_ne (Ne.symm hp)] at he
        refine .inr ⟨hp, fun h => hp ?_, he, ?_⟩
        · have := hsk p h
          rw [hix] at this
          cases this; rfl
        · rw [Array.getElem?_modify, if_neg (Ne.symm hp)]
    refine ⟨_, g', ?_, h7, h8⟩
    rw [hix] at hfind
    simp only [Option.map_some] at hfind
    have hst := run_stays (P := P) (w := w) hkk hfk
    simp [Instr.mapUpdate, run_underlying huT, hget, hck, hfind, q1, hmk, hst, MapKept.run_setObj_map _ hh]

theorem toD_keeps {k : CK} {x : C} {os os1 : List Ob} {d : D} (h : toD k x os = some (d, os1)) (m : Nat) : os1[m]? = os[m]? ∨ os1[m]? = some .dead ∨ ∃ T xs, os1[m]? = some (.frz T xs) := by
  unfold toD at h
  split at h <;> first | (cases h; done) | skip
  all_goals first
    | (simp only [Option.some.injEq, Prod.mk.injEq] at h; rw [← h.2]; exact .inl rfl)
    | skip
  · rename_i j i n; cases hk : ikBeq i j <;> simp [hk] at h; rw [← h.2]; exact .inl rfl
  · rename_i e T xs; cases hk : Nat.beq T e <;> simp [hk] at h; rw [← h.2]; exact .inl rfl
  · rename_i e T xs; cases hk : Nat.beq T e <;> simp [hk] at h; rw [← h.2]; exact .inl rfl
  · rename_i e o
    split at h
    · rename_i T _ _ ys ho
      cases hk : Nat.beq T e <;> simp [hk] at h
      rw [← h.2]
      by_cases hmo : m = o
      · subst hmo
        exact .inr (.inr ⟨T, ys, List.getElem?_set_self (ob_lt (getD_some ho (by simp)))⟩)
      · exact .inl (List.getElem?_set_ne (Ne.symm hmo))
    · rename_i T ys _; cases hk : Nat.beq T e <;> simp [hk] at h; rw [← h.2]; exact .inl rfl
    · cases h
theorem absorb_keeps {md : Md} {k : CK} {x : C} {os os1 : List Ob} {d : D} (h : absorb tt md k x os = some (d, os1)) (m : Nat) : os1[m]? = os[m]? ∨ os1[m]? = some .dead ∨ ∃ T xs, os1[m]? = some (.frz T xs) := by
  unfold absorb at h
  cases hz : md.isZ with
  | true => simp only [hz, cond_true] at h; exact toD_keeps h m
  | false =>
    simp only [hz, cond_false] at h
    split at h
    · rename_i e o
      split at h
      · rename_i T mm _ ys ho
        cases hk : (Nat.beq T e && (Md.beq mm.up md || flatT tt T)) <;> simp [hk] at h
        rw [← h.2]
        by_cases hmo : m = o
        · subst hmo
          exact .inr (.inl (List.getElem?_set_self (ob_lt (getD_some ho (by simp)))))
        · exact .inl (List.getElem?_set_ne (Ne.symm hmo))
      · cases h
    · simp only [Option.some.injEq, Prod.mk.injEq] at h; rw [← h.2]; exact .inl rfl
    · cases h
    · exact toD_keeps h m
theorem evalMapUpdate_sound (hT : TTok P tt) {E : Env} (hE : E.B.tt = tt) {T : TypeId} {nt : Nat} {a : Act} {s : St} {vx vk vv : Value} {cx ck cv : C} {Kv : St → R} (hs : RepSt tt c w g nt a s)
    (h : evalMapUpdate E T cx ck cv s Kv) (hx : RepC tt w (Now c w g s.objs.length) g s.objs vx cx) (hk : RepC tt w (Now c w g s.objs.length) g s.objs vk ck) (hv : RepC tt w (Now c w g s.objs.length) g s.objs vv cv) :
    ∃ w' s' g', (Instr.mapUpdate T vx vk vv).run P w = .ok () w' ∧ RepSt tt c w' g' nt a s' ∧ Stp c w g s.objs w' g' s'.objs ∧ Kv s' := by
  unfold evalMapUpdate at h
  rw [hE] at h
  split at h
  rotate_left
  · cases h
  rename_i K V kk kv o kd hm
  obtain ⟨cs, by', hTm, hok⟩ := mapKV_inv hm
  split at h
  · rename_i K' V' md ver es ho
    obtain ⟨hc, h'⟩ := bif_some h
    clear h
    have h := h'
    clear h'
    simp only [Bool.and_eq_true] at hc
    obtain ⟨⟨hK, hV⟩, hf⟩ := hc
    have hK := Nat.eq_of_beq_eq_true hK
    have hV := Nat.eq_of_beq_eq_true hV
    subst hK hV
    have ho0 := getD_some ho (by simp)
    split at h
    rotate_left
    · cases h
    rename_i d os1 hab
    obtain ⟨g1, φ', hs1, st1, hw, hfd, hdead, _, _⟩ := absorb_sound hs hab hv
    split at h
    rotate_left
    · cases h
    rename_i K2 V2 md2 ver2 es2 ho1
    have ho1 := getD_some ho1 (by simp)
    have hsame : s.objs[o]? = os1[o]? := by
      rcases absorb_keeps hab o with e | e | ⟨_, _, e⟩
      · exact e.symm
      · rw [ho1] at e; cases e
      · rw [ho1] at e; cases e
    rw [ho0, ho1] at hsame
    cases hsame
    have hx1 := st1.rep hx
    have hk1 := st1.rep hk
    cases hx1 with
    | mp _ b hη =>
      obtain ⟨w', g', h1, h2, h3⟩ := map_write hT hTm hs1 ho1 (by simp) hη (hs1.inv.ob o _ _ ho1 hη) (fun n hn => .inr (.inr (.inl ⟨_, _, _, ho1, hn⟩))) hok hf hfd hk1.d_inv hw (fun x hx => by
        obtain ⟨m, _, q2, q3⟩ := hdead x hx
        exact ⟨m, q2, q3⟩) (fun i hi => hi.elim)
      exact ⟨w', _, g', h1, h2, st1.trans h3, h⟩
  · rename_i K' V' md ver es i ho
    obtain ⟨hc, h'⟩ := bif_some h
    clear h
    have h := h'
    clear h'
    simp only [Bool.and_eq_true] at hc
    obtain ⟨⟨hK, hV⟩, hf⟩ := hc
    have hK := Nat.eq_of_beq_eq_true hK
    have hV := Nat.eq_of_beq_eq_true hV
    subst hK hV
    have ho0 := getD_some ho (by simp)
    split at h
    rotate_left
    · cases h
    rename_i d os1 hab
    obtain ⟨g1, φ', hs1, st1, hw, hfd, hdead, _, _⟩ := absorb_sound hs hab hv
    split at h
    rotate_left
    · cases h
    rename_i K2 V2 md2 ver2 es2 i2 ho1
    have ho1 := getD_some ho1 (by simp)
    have hsame : s.objs[o]? = os1[o]? := by
      rcases absorb_keeps hab o with e | e | ⟨_, _, e⟩
      · exact e.symm
      · rw [ho1] at e; cases e
      · rw [ho1] at e; cases e
    rw [ho0, ho1] at hsame
    cases hsame
    have hx1 := st1.rep hx
    have hk1 := st1.rep hk
    cases hx1 with
    | mp _ b hη =>
      obtain ⟨w', g', h1, h2, h3⟩ := map_write hT hTm hs1 ho1 (by simp) hη (hs1.inv.ob o _ _ ho1 hη) (fun n hn => .inr (.inr (.inr ⟨_, _, _, _, ho1, hn⟩))) hok hf hfd hk1.d_inv hw (fun x hx => by
        obtain ⟨m, _, q2, q3⟩ := hdead x hx
        exact ⟨m, q2, q3⟩) (fun k hk => by rw [hk]; exact h.1)
      exact ⟨w', _, g', h1, h2, st1.trans h3, h.2⟩
  · cases h
/-- A new map. -/
theorem makeMap_sound {T K V : TypeId} {ck cv : CK} {md : Md} {nt : Nat} {a : Act} {s : St} (hs : RepSt tt c w g nt a s) (hm : mapKV tt T = some (K, V, ck, cv)) :
    ∃ v w' g', (Instr.makeMap T none).run P w = .ok v w' ∧ RepSt tt c w' g' nt a ⟨s.tmps, s.objs ++ [.map K V md 0 []]⟩ ∧ Stp c w g s.objs w' g' (s.objs ++ [.map K V md 0 []]) ∧ RepC tt w' (Now c w' g' (s.objs ++ [Ob.map K V md 0 []]).length) g' (s.objs ++ [.map K V md 0 []]) v (.mp s.objs.length) := by
  have hl := hs.inv.len
  obtain ⟨cs, by', hTm, hok⟩ := mapKV_inv hm
  have hheap : ∀ b, b < w.heap.size → (w.alloc (.map #[] 0)).heap[b]? = w.heap[b]? := fun b hb => heap_alloc_old w _ b hb
  let g' := g.new (.map (some w.heap.size)) (fun _ _ => Go.undef) (fun b => b = w.heap.size) (fun _ => False)
  have hc : Chg c w g s.objs (w.alloc (.map #[] 0)) g' (s.objs ++ [.map K V md 0 []]) := .new hs.inv (by simp) (fun b hb _ => hheap b hb) rfl rfl rfl (fun b hb => hb.elim) (fun b hb => .inr (by subst hb; simp))
  refine ⟨_, _, g', rfl, hs.new (by simp) (fun b hb _ => hheap b hb) rfl rfl rfl (fun b hb => hb.elim) (fun b hb => .inr (by subst hb; simp)) ?_, hc.stp hs.inv, .mp _ _ (by simp [g', Gh.new, hl])⟩
  exact ⟨w.heap.size, #[], 0, ck, cv, fun _ _ => False, rfl, heap_alloc_new w _, hok, by simp [Gh.new, hl], rfl, fun i x hi => by simp at hi, fun i i' x hi => by simp at hi, fun i e he => by simp at he⟩

end Go.Proofs.EN
