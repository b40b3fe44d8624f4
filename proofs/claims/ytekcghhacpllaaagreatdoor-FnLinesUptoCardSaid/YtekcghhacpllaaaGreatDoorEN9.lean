/- Contracts of functions of this program, by the evaluator EN. No conditions but those that each theorem states. -/
import Derived.Test.YtekcghhacpllaaaGreatDoorEN8
/- Operations that make or write memory. -/
namespace Go.Proofs.EN
open Go
set_option linter.unusedVariables false
set_option linter.unusedSimpArgs false
variable {tt : TypeId → Option TI} {P : Program} {c : Ctx} {w : World} {g : Gh} {os : List Ob} {S : Nat → Prop}

/-! ### `fill` -/
theorem getD_zipSet (l : List Value) : ∀ (k off : Nat) (cs : Array Value) (p : Nat), off + k + l.length ≤ cs.size →
    ((l.zipIdx k).foldl (fun cs (x : Value × Nat) => cs.setIfInBounds (off + x.2) x.1) cs).size = cs.size ∧
    ((l.zipIdx k).foldl (fun cs (x : Value × Nat) => cs.setIfInBounds (off + x.2) x.1) cs).getD p Go.undef = if off + k ≤ p ∧ p < off + k + l.length then l.getD (p - (off + k)) Go.undef else cs.getD p Go.undef := by
  induction l with
  | nil => intro k off cs p _; simp; omega
  | cons v l ih =>
    intro k off cs p h
    simp only [List.length_cons] at h
    simp only [List.zipIdx_cons, List.foldl_cons]
    obtain ⟨h1, h2⟩ := ih (k + 1) off (cs.setIfInBounds (off + k) v) p (by simp; omega)
    refine ⟨by simpa using h1, ?_⟩
    rw [h2]
    by_cases hp : p = off + k
    · subst hp
      rw [if_neg (by omega), if_pos (by simp)]
      simp [Array.getD, show off + k < cs.size by omega]
    · by_cases hp2 : off + (k + 1) ≤ p ∧ p < off + (k + 1) + l.length
      · rw [if_pos hp2, if_pos (by simp; omega)]
        rw [show p - (off + k) = (p - (off + (k + 1))) + 1 by omega]
        simp
      · rw [if_neg hp2, if_neg (by simp; omega)]
        simp [Array.getD_eq_getD_getElem?, Array.getElem?_setIfInBounds_ne (Ne.symm hp)]

/-- One part laid into the cells. -/
def layA (cs : Array Value) (off : Nat) (v : Value) : Array Value := v.cells.zipIdx.foldl (fun cs (x : Value × Nat) => cs.setIfInBounds (off + x.2) x.1) cs
theorem layA_size (cs : Array Value) (off : Nat) (v : Value) (h : off + v.cells.size ≤ cs.size) : (layA cs off v).size = cs.size := by
  have := (getD_zipSet v.cells.toList 0 off cs 0 (by simpa using h)).1
  rw [layA, ← Array.foldl_toList, Array.toList_zipIdx]
  exact this
theorem layA_getD (cs : Array Value) (off : Nat) (v : Value) (p : Nat) (h : off + v.cells.size ≤ cs.size) :
    (layA cs off v).getD p Go.undef = if off ≤ p ∧ p < off + v.cells.size then v.cells.getD (p - off) Go.undef else cs.getD p Go.undef := by
  have := (getD_zipSet v.cells.toList 0 off cs p (by simpa using h)).2
  rw [layA, ← Array.foldl_toList, Array.toList_zipIdx, this]
  simp only [Nat.add_zero, Array.length_toList]
  by_cases hp : off ≤ p ∧ p < off + v.cells.size
  · rw [if_pos hp, if_pos hp]
    simp [List.getD_eq_getElem?_getD, Array.getD_eq_getD_getElem?]
  · rw [if_neg hp, if_neg hp]

theorem fill_cons (place : Nat → Option (Nat × Nat)) (cs : Array Value) (i : Nat) (v : Value) (rest : List (Nat × Value)) (off size : Nat) (hp : place i = some (off, size)) (h1 : v.cells.size = size) (h2 : off + v.cells.size ≤ cs.size) :
    Instr.fill place cs ((i, v) :: rest) = Instr.fill place (layA cs off v) rest := by
  simp only [Instr.fill, hp]
  rw [if_neg (by simp [h1]; omega)]
  rfl

theorem zerosArr_getD (z : Array Value) (n i : Nat) (hi : i < n) (hz : 0 < z.size) : ((Array.range n).map (z[· % z.size]!)).getD i Go.undef = z.getD (i % z.size) Go.undef := by
  have := Nat.mod_lt i hz
  simp [Array.getD, hi, this]

theorem setRun_length {A : Type} : ∀ (vs : List A) (cs : List A) (off : Nat), (setRun cs off vs).length = cs.length
  | [], _, _ => rfl
  | v :: r, cs, off => by simp [setRun, setRun_length r]
theorem setRun_getD {A : Type} (z : A) : ∀ (vs : List A) (cs : List A) (off p : Nat), off + vs.length ≤ cs.length → (setRun cs off vs).getD p z = if off ≤ p ∧ p < off + vs.length then vs.getD (p - off) z else cs.getD p z
  | [], cs, off, p, _ => by simp [setRun]; omega
  | v :: r, cs, off, p, h => by
    simp only [List.length_cons] at h
    simp only [setRun]
    rw [setRun_getD z r _ (off + 1) p (by simp; omega)]
    by_cases hp : p = off
    · subst hp
      rw [if_neg (by omega), if_pos (by simp)]
      simp [List.getD_eq_getElem?_getD, show p < cs.length by omega]
    · by_cases hp2 : off + 1 ≤ p ∧ p < off + 1 + r.length
      · rw [if_pos hp2, if_pos (by simp; omega), show p - off = (p - (off + 1)) + 1 by omega]
        simp
      · rw [if_neg hp2, if_neg (by simp; omega)]
        simp [List.getD_eq_getElem?_getD, List.getElem?_set_ne (Ne.symm hp)]

theorem run_newVar (T : TypeId) (v : Value) : (newVar T v).run P w = .ok ⟨w.heap.size, 0, none⟩ (w.alloc (.cells v.cells T)) := by
  simp [newVar, newRow]

/-! ### Stores -/
theorem run_storeVar {ti : TI} {T : TypeId} {info : TypeInfo} (hi : TIok P T ti info) {b off : Nat} {v : Value} {cur : Array Value} {U : TypeId} (hh : w.heap[b]? = some (.cells cur U (0, 0))) (hsz : v.cells.size = ti.cells.length)
    (hfit : off + v.cells.size ≤ cur.size) (h1 : ∀ u ∈ v.cells.toList, u.oneCell' = true) :
    (storeVar T ⟨b, off, none⟩ v).run P w = .ok () (w.setRow b (cur.toList.take off ++ v.cells.toList ++ cur.toList.drop (off + v.cells.size)).toArray) := by
  have hs : (sizeOf T).run P w = .ok ti.cells.length w := by simp [sizeOf, typeInfo, hi.inf, hi.size]
  have := run_storeCells_at P b off U v.cells.toList 0 cur w hh (by simpa using hfit) h1
  simp only [Nat.add_zero, Array.length_toList] at this
  unfold storeVar
  simp [hs, hsz, this]


/-! ### The zero of a type -/
theorem zero_rep {ti : TI} {T : TypeId} {info : TypeInfo} (hi : TIok P T ti info) : ∃ zv, info.zero = some zv ∧ zv.cells.size = ti.cells.length ∧
    ∀ i, i < (ti.cells.map zeroC).length → RepC tt w S g os (zv.cells.getD i Go.undef) ((ti.cells.map zeroC).getD i .undef) ∧ (zv.cells.getD i Go.undef).oneCell' = true := by
  obtain ⟨zv, hz, hsz, hk⟩ := hi.zero
  refine ⟨zv, hz, hsz, fun i hi' => ?_⟩
  have hlt : i < ti.cells.length := by simpa using hi'
  obtain ⟨h1, h2⟩ := hk i _ (List.getElem?_eq_getElem hlt)
  refine ⟨?_, h2⟩
  have hc : (ti.cells.map zeroC).getD i .undef = zeroC ti.cells[i] := by simp [List.getD_eq_getElem?_getD, hlt]
  rw [hc]
  generalize ti.cells[i] = k at h1
  cases k with
  | other => exact .zed _ h2
  | bool => rw [h1 (by simp)]; exact .d _ _ (.bool _)
  | int k => rw [h1 (by simp)]; exact .d _ _ (.int _ _)
  | str => rw [h1 (by simp)]; exact .d _ _ (.str [] (by simp))
  | list e => rw [h1 (by simp)]; exact .cap0 none
  | iface => rw [h1 (by simp)]; exact .d _ _ .nilI

/-! ### New rows with nothing in them -/
theorem rowT_inv {e : TypeId} (h : rowT tt e = true) : ∃ te, tt e = some te ∧ dataKs te.cells = true ∧ 0 < te.cells.length := by
  unfold rowT at h
  split at h
  · rename_i te hte
    simp only [Bool.and_eq_true] at h
    exact ⟨te, hte, h.1, blt_lt h.2⟩
  · cases h
/-- A row with nothing in it, made of what has no room. -/
theorem prom_step {nt : Nat} {a : Act} {s : St} (hs : RepSt tt c w g nt a s) {e : TypeId} (he : rowT tt e = true) (ad : Option Addr) :
    let g' := g.new (.slice ad 0 0) (fun _ _ => Go.undef) (fun _ => False) (fun _ => False)
    RepSt tt c w g' nt a ⟨s.tmps, s.objs ++ [.row e .deep 0 []]⟩ ∧ Stp c w g s.objs w g' (s.objs ++ [.row e .deep 0 []]) ∧ RepC tt w (Now c w g' (s.objs ++ [Ob.row e .deep 0 []]).length) g' (s.objs ++ [.row e .deep 0 []]) (.slice ad 0 0) (.row s.objs.length) := by
  intro g'
  obtain ⟨te, hte, hd, hk⟩ := rowT_inv he
  have hl := hs.inv.len
  have hc : Chg c w g s.objs w g' (s.objs ++ [.row e .deep 0 []]) := .new hs.inv (Nat.le_refl _) (fun _ _ _ => rfl) rfl rfl rfl (fun b hb => hb.elim) (fun b hb => hb.elim)
  refine ⟨hs.new (Nat.le_refl _) (fun _ _ _ => rfl) rfl rfl rfl (fun b hb => hb.elim) (fun b hb => hb.elim) ?_, hc.stp hs.inv, ?_⟩
  · exact ⟨ad, 0, te, rfl, hte, hd, hk, fun i hi => by simp at hi, by simp, by simp, fun h => by omega⟩
  · refine .row _ _ (by simp [g', Gh.new, hl]) (fun _ => by simp [g', Gh.new, hl]) rfl

theorem promC_sound {nt : Nat} {a : Act} {s : St} (hs : RepSt tt c w g nt a s) {k : CK} {x x' : C} {v : Value} {os' : List Ob} (h : promC tt k x s.objs = (x', os')) (hx : RepC tt w (Now c w g s.objs.length) g s.objs v x) :
    ∃ g', RepSt tt c w g' nt a ⟨s.tmps, os'⟩ ∧ Stp c w g s.objs w g' os' ∧ RepC tt w (Now c w g' os'.length) g' os' v x' ∧ (x.one = true → x'.one = true) := by
  unfold promC at h
  split at h
  · rename_i e
    cases he : rowT tt e with
    | false =>
      simp only [he, cond_false, Prod.mk.injEq] at h
      obtain ⟨rfl, rfl⟩ := h
      exact ⟨g, hs, .refl _ _ _ _, hx, fun h => h⟩
    | true =>
      simp only [he, cond_true, Prod.mk.injEq] at h
      obtain ⟨rfl, rfl⟩ := h
      cases hx with
      | cap0 ad =>
        obtain ⟨h1, h2, h3⟩ := prom_step hs he ad
        exact ⟨_, h1, h2, h3, fun _ => rfl⟩
  · simp only [Prod.mk.injEq] at h
    obtain ⟨rfl, rfl⟩ := h
    exact ⟨g, hs, .refl _ _ _ _, hx, fun h => h⟩
theorem promCs_sound {nt : Nat} {a : Act} : ∀ {ks : List CK} {xs xs' : List C} {g : Gh} {s : St} {vs : List Value} {os' : List Ob}, RepSt tt c w g nt a s → promCs tt ks xs s.objs = (xs', os') → vs.length = xs.length →
    (∀ i, i < xs.length → RepC tt w (Now c w g s.objs.length) g s.objs (vs.getD i Go.undef) (xs.getD i .undef)) → xs.all C.one = true →
    ∃ g', RepSt tt c w g' nt a ⟨s.tmps, os'⟩ ∧ Stp c w g s.objs w g' os' ∧ xs'.length = xs.length ∧ (∀ i, i < xs.length → RepC tt w (Now c w g' os'.length) g' os' (vs.getD i Go.undef) (xs'.getD i .undef)) ∧ xs'.all C.one = true
  | [], xs, xs', g, s, vs, os', hs, h, hl, hr, h1 => by
    simp only [promCs, Prod.mk.injEq] at h
    obtain ⟨rfl, rfl⟩ := h
    exact ⟨g, hs, .refl _ _ _ _, rfl, hr, h1⟩
  | _ :: _, [], xs', g, s, vs, os', hs, h, hl, hr, h1 => by
    simp only [promCs, Prod.mk.injEq] at h
    obtain ⟨rfl, rfl⟩ := h
    exact ⟨g, hs, .refl _ _ _ _, rfl, hr, h1⟩
  | k :: ks, x :: xs, xs', g, s, vs, os', hs, h, hl, hr, h1 => by
    simp only [promCs] at h
    generalize hp : promC tt k x s.objs = p at h
    obtain ⟨x1, os1⟩ := p
    simp only at h
    generalize hq : promCs tt ks xs os1 = q at h
    obtain ⟨xs1, os2⟩ := q
    simp only [Prod.mk.injEq] at h
    obtain ⟨rfl, rfl⟩ := h
    match vs, hl with
    | v :: vs, hl =>
    simp only [List.all_cons, Bool.and_eq_true] at h1
    obtain ⟨g1, hs1, st1, hr1, ho1⟩ := promC_sound hs hp (by simpa using hr 0 (by simp))
    obtain ⟨g2, hs2, st2, hl2, hr2, ho2⟩ := promCs_sound (s := ⟨s.tmps, os1⟩) (vs := vs) hs1 hq (by simpa using hl) (fun i hi => st1.rep (by simpa using hr (i + 1) (by simpa using hi))) h1.2
    refine ⟨g2, hs2, st1.trans st2, by simp [hl2], fun i hi => ?_, by simp [ho1 h1.1, ho2]⟩
    cases i with
    | zero => simpa using st2.rep hr1
    | succ i => simpa using hr2 i (by simpa using hi)

/-! ### A new box -/
theorem alloc_box {nt : Nat} {a : Act} {s : St} (h : RepSt tt c w g nt a s) (T : TypeId) (vs : Array Value) (cs : List C) (hsz : vs.size = cs.length) (hr : ∀ i, i < cs.length → RepC tt w (Now c w g s.objs.length) g s.objs (vs.getD i Go.undef) (cs.getD i .undef))
    (h1 : ∀ i, i < cs.length → (vs.getD i Go.undef).oneCell' = true) :
    let g' := g.new (.pointer (some ⟨w.heap.size, 0, none⟩)) (fun _ _ => Go.undef) (fun b => b = w.heap.size) (fun _ => False)
    RepSt tt c (w.alloc (.cells vs T)) g' nt a ⟨s.tmps, s.objs ++ [.box cs]⟩ ∧ Stp c w g s.objs (w.alloc (.cells vs T)) g' (s.objs ++ [.box cs]) ∧
      RepC tt (w.alloc (.cells vs T)) (Now c (w.alloc (.cells vs T)) g' (s.objs ++ [Ob.box cs]).length) g' (s.objs ++ [.box cs]) (.pointer (some ⟨w.heap.size, 0, none⟩)) (.ref s.objs.length 0) := by
  intro g'
  have hl := h.inv.len
  have hheap : ∀ b, b < w.heap.size → (w.alloc (.cells vs T)).heap[b]? = w.heap[b]? := fun b hb => heap_alloc_old w _ b hb
  have hc : Chg c w g s.objs (w.alloc (.cells vs T)) g' (s.objs ++ [.box cs]) := .new h.inv (by simp) (fun b hb _ => hheap b hb) rfl rfl rfl (fun b hb => hb.elim) (fun b hb => .inr (by subst hb; simp))
  refine ⟨h.new (by simp) (fun b hb _ => hheap b hb) rfl rfl rfl (fun b hb => hb.elim) (fun b hb => .inr (by subst hb; simp)) ?_, hc.stp h.inv, .ref _ _ _ (by simp [g', Gh.new, hl])⟩
  exact ⟨w.heap.size, vs, T, rfl, heap_alloc_new w _, hsz, fun i hi => hc.rep h.inv (hr i hi), h1, by simp [Gh.new, hl]⟩

/-! ### Stores -/
theorem setRow_box {nt : Nat} {a : Act} {s : St} (hs : RepSt tt c w g nt a s) {o b : Nat} {cs cs' : List C} {cur cur' : Array Value} {U : TypeId} (ho : s.objs[o]? = some (.box cs)) (hη : g.η[o]? = some (.pointer (some ⟨b, 0, none⟩))) (hφ : g.φ o b)
    (hh : w.heap[b]? = some (.cells cur U (0, 0))) (hsz : cur'.size = cs'.length) (hr : ∀ i, i < cs'.length → RepC tt w (Now c w g s.objs.length) g s.objs (cur'.getD i Go.undef) (cs'.getD i .undef)) (h1 : ∀ i, i < cs'.length → (cur'.getD i Go.undef).oneCell' = true) :
    let g' := g.upd o (g.ν o) (g.φ o) (fun _ => False)
    RepSt tt c (w.setRow b cur') g' nt a ⟨s.tmps, s.objs.set o (.box cs')⟩ ∧ Stp c w g s.objs (w.setRow b cur') g' (s.objs.set o (.box cs')) := by
  intro g'
  have hol := ob_lt ho
  have self : (s.objs.set o (.box cs'))[o]? = some (.box cs') := List.getElem?_set_self hol
  have h3 : ∀ T n, isR3 (s.objs.set o (.box cs')) o T n → isR3 s.objs o T n := fun T n hx => by
    rcases hx with ⟨_, _, _, h, _⟩ | ⟨_, _, _, _, _, h, _⟩ | ⟨_, h, _⟩ <;> rw [self] at h <;> cases h
  have hrh : ∀ T ver' n, isRH (s.objs.set o (.box cs')) o T ver' n → ∃ ver, ver ≤ ver' ∧ isRH s.objs o T ver n ∧ (ver' = ver → g.ν o = g.ν o) := fun T ver n hx => by
    rcases hx with ⟨_, _, h, _⟩ | ⟨_, _, _, _, h, _⟩ | ⟨_, _, _, h, _⟩ | ⟨_, _, _, _, h, _⟩ <;> rw [self] at h <;> cases h
  have hheap : ∀ k, k ≠ b → (w.setRow b cur').heap[k]? = w.heap[k]? := fun k hk => setRow_other w b k cur' hk
  have hheap' : ∀ k, k < w.heap.size → ¬ False → ¬ g.φ o k → (w.setRow b cur').heap[k]? = w.heap[k]? := fun k _ _ hk => hheap k fun e => hk (e ▸ hφ)
  have hc : Chg c w g s.objs (w.setRow b cur') g' (s.objs.set o (.box cs')) := .upd hs.inv ho (by simp) (by simp) hheap' rfl rfl rfl (fun b hb => hb.elim) (fun b hb => .inl hb) h3 hrh
  refine ⟨hs.upd ho (by simp) (by simp) hheap' rfl rfl rfl (fun b hb => hb.elim) (fun b hb => .inl hb) h3 hrh fun v hv => ?_, hc.stp hs.inv⟩
  rw [hη] at hv
  cases hv
  exact ⟨b, cur', U, rfl, setRow_heap w b cur cur' U (0, 0) hh, hsz, fun j hj => hc.rep hs.inv (hr j hj), h1, by simpa [Gh.upd] using hφ⟩

/-- The cells of a row with some of them set. -/
def lay (cur : Array Value) (off : Nat) (vs : Array Value) : Array Value := (cur.toList.take off ++ vs.toList ++ cur.toList.drop (off + vs.size)).toArray
theorem lay_size (cur : Array Value) (off : Nat) (vs : Array Value) (h : off + vs.size ≤ cur.size) : (lay cur off vs).size = cur.size := by
  simp [lay]; omega
theorem lay_getD (cur : Array Value) (off : Nat) (vs : Array Value) (h : off + vs.size ≤ cur.size) (i : Nat) : (lay cur off vs).getD i Go.undef = if off ≤ i ∧ i < off + vs.size then vs.getD (i - off) Go.undef else cur.getD i Go.undef := by
  simp only [lay, Array.getD_eq_getD_getElem?, List.getElem?_toArray, List.getElem?_append, List.length_append, List.length_take, Array.length_toList, List.getElem?_drop, List.getElem?_take, Array.getElem?_toList]
  rw [show min off cur.size = off by omega]
  by_cases h2 : i < off
  · rw [if_pos (by omega), if_pos h2, if_pos h2, if_neg (by omega)]
  · by_cases h3 : i < off + vs.size
    · rw [if_pos h3, if_neg h2, if_pos (by omega)]
    · rw [if_neg h3, if_neg (by omega), show off + vs.size + (i - (off + vs.size)) = i by omega]

theorem set_row_getD {xs : List (List D)} {i k : Nat} {ds : List D} (hi : i < xs.length) : (xs.set i ds).getD k [] = if k = i then ds else xs.getD k [] := by
  simp only [List.getD_eq_getElem?_getD, List.getElem?_set]
  by_cases h : i = k
  · subst h; simp [hi]
  · simp [h, Ne.symm h]
theorem hasL_false {ks : List CK} (h : hasL ks = false) : ∀ k ∈ ks, k.isL = false := by
  induction ks with
  | nil => intro k hk; cases hk
  | cons k ks ih =>
    simp only [hasL, Bool.or_eq_false_iff] at h
    intro k' hk
    rcases List.mem_cons.1 hk with rfl | hk
    · exact h.1
    · exact ih h.2 k' hk

theorem idx_in {i p q k off L : Nat} (hq : q < k) (hL : off + L ≤ k) : (i * k + off ≤ p * k + q ∧ p * k + q < i * k + off + L) ↔ p = i ∧ off ≤ q ∧ q < off + L := by
  constructor
  · rintro ⟨h1, h2⟩
    rcases Nat.lt_trichotomy p i with h | h | h
    · have : (p + 1) * k ≤ i * k := Nat.mul_le_mul_right _ h
      rw [Nat.add_mul] at this; omega
    · subst h; omega
    · have : (i + 1) * k ≤ p * k := Nat.mul_le_mul_right _ h
      rw [Nat.add_mul] at this; omega
  · rintro ⟨rfl, h1, h2⟩; omega

/-- Cells written into a row's element. -/
theorem write_row {nt : Nat} {a : Act} {s : St} (hs : RepSt tt c w g nt a s) {o i off : Nat} {T : TypeId} {md : Md} {ver : Nat} {xs : List (List D)} {ob0 : Ob} (ho : s.objs[o]? = some ob0) (hd0 : ob0 ≠ .dead) {sk : Nat → Nat → Prop} {b : Nat} {cap : Nat}
    (hX : RowX tt w (Now c w g s.objs.length) sk md (.slice (some ⟨b, 0, none⟩) xs.length cap) T xs (g.φ o) (g.ν o)) (hr3 : isR3 s.objs o T xs.length) (hrh0 : isRH s.objs o T ver xs.length) {ti : TI} (hti : tt T = some ti) (hix : i < xs.length)
    {ks : List CK} (hk0 : 0 < ks.length) (hks : (ti.cells.drop off).take ks.length = ks) {us : Array Value} {ds : List D} {ψ : Nat → Nat → Prop} {os0 : List Ob} (hul : us.size = ks.length) (hdl : ds.length = ks.length) (hone : ∀ j, j < ks.length → (us.getD j Go.undef).oneCell' = true)
    (hab : Absd tt c w md g os0 s.objs ks us.toList ds ψ) {ver' : Nat} (hver : hasL ks = true → ver' = ver + 1) (hver2 : hasL ks = false → ver' = ver) (hη : g.η[o]? = some (.slice (some ⟨b, 0, none⟩) xs.length cap)) (hsk : ∀ p q, sk p q → p = i ∧ off ≤ q ∧ q < off + ks.length) :
    ∃ w' g', (∀ {U : TypeId} {tu : TI} {v : Value} {info : TypeInfo}, TIok P U tu info → tu.cells.length = ks.length → v.cells = us → (storeVar U ⟨b, i * ti.cells.length + off, none⟩ v).run P w = .ok () w') ∧
      RepSt tt c w' g' nt a ⟨s.tmps, s.objs.set o (.row T md ver' (xs.set i (setRun (xs.getD i []) off ds)))⟩ ∧ Stp c w g s.objs w' g' (s.objs.set o (.row T md ver' (xs.set i (setRun (xs.getD i []) off ds)))) := by
  have hol := ob_lt ho
  obtain ⟨a0, cap0, ti', hv, ht', hd, hk, hfit, hle, hbg, hc⟩ := hX
  rw [hti] at ht'; cases ht'
  simp only [Value.slice.injEq, true_and] at hv
  obtain ⟨rfl, rfl⟩ := hv
  obtain ⟨b', vs, φs, hb', hh, hsz, hφb, hφs, hdj, hr, hν⟩ := hc (by omega)
  simp only [Option.some.injEq, Addr.mk.injEq, and_true] at hb'
  subst hb'
  have hkl : off + ks.length ≤ ti.cells.length := by
    have : ks.length ≤ ti.cells.length - off := by
      have := congrArg List.length hks
      simp at this; omega
    omega
  have hkj : ∀ j, j < ks.length → ti.cells[off + j]? = ks[j]? := fun j hj => (getD_take_drop hks hj).2
  have hlen : (xs.getD i []).length = ti.cells.length := fitsAll_length (hfit i hix)
  have hroom : (i * ti.cells.length + off) + us.size ≤ vs.size := by
    rw [hsz, hul]
    have : (i + 1) * ti.cells.length ≤ cap * ti.cells.length := Nat.mul_le_mul_right _ (by omega)
    rw [Nat.add_mul] at this
    omega
  -- what is written
  let cur := lay vs (i * ti.cells.length + off) us
  have hcs : cur.size = vs.size := lay_size _ _ _ hroom
  have hcg : ∀ p q, q < ti.cells.length → cur.getD (p * ti.cells.length + q) Go.undef = if p = i ∧ off ≤ q ∧ q < off + ks.length then us.getD (q - off) Go.undef else vs.getD (p * ti.cells.length + q) Go.undef := by
    intro p q hq
    have := lay_getD vs (i * ti.cells.length + off) us hroom (p * ti.cells.length + q)
    rw [hul] at this
    show (lay _ _ _).getD _ _ = _
    rw [this]
    by_cases h : p = i ∧ off ≤ q ∧ q < off + ks.length
    · rw [if_pos h, if_pos ((idx_in hq hkl).2 h)]
      obtain ⟨rfl, _, _⟩ := h
      rw [show p * ti.cells.length + q - (p * ti.cells.length + off) = q - off by omega]
    · rw [if_neg h, if_neg (fun h' => h ((idx_in hq hkl).1 h'))]
  let xs' := xs.set i (setRun (xs.getD i []) off ds)
  have hxl : xs'.length = xs.length := by simp [xs']
  have hxg : ∀ p q, (xs'.getD p []).getD q .z = if p = i ∧ off ≤ q ∧ q < off + ks.length then ds.getD (q - off) .z else (xs.getD p []).getD q .z := by
    intro p q
    show ((xs.set i _).getD p []).getD q .z = _
    rw [set_row_getD hix]
    by_cases hpi : p = i
    · subst hpi
      rw [if_pos rfl, setRun_getD D.z ds (xs.getD p []) off q (by omega), hdl]
      by_cases h : off ≤ q ∧ q < off + ks.length
      · rw [if_pos h, if_pos ⟨rfl, h⟩]
      · rw [if_neg h, if_neg (fun h' => h h'.2)]
    · rw [if_neg hpi, if_neg (fun h => hpi h.1)]
  have hxf : ∀ p, p < xs'.length → fitsAll ti.cells (xs'.getD p []) := by
    intro p hp
    rw [hxl] at hp
    by_cases hpi : p = i
    · subst hpi
      refine fitsAll_of ?_ fun q k hq => ?_
      · show ((xs.set p _).getD p []).length = _
        rw [set_row_getD hix, if_pos rfl, setRun_length, hlen]
      · rw [hxg]
        by_cases h : p = p ∧ off ≤ q ∧ q < off + ks.length
        · rw [if_pos h]
          refine fitsAll_at hab.fit (q - off) k ?_
          rw [← hkj (q - off) (by omega), show off + (q - off) = q by omega]
          exact hq
        · rw [if_neg h]
          exact fitsAll_at (hfit p hp) q k hq
    · show fitsAll _ ((xs.set i _).getD p [])
      rw [set_row_getD hix, if_neg hpi]
      exact hfit p hp
  let Ψ : Nat → Prop := fun x => ∃ j, j < ks.length ∧ ψ j x
  have hΨ : ∀ x, Ψ x → ∃ m, s.objs[m]? = some .dead ∧ g.φ m x := by
    rintro x ⟨j, hj, hx⟩
    obtain ⟨m, _, h2, h3⟩ := hab.dead j x hj hx
    exact ⟨m, h2, h3⟩
  have hΨo : ∀ x, Ψ x → ¬ g.φ o x := by
    intro x hx hox
    obtain ⟨m, h2, h3⟩ := hΨ x hx
    have := hs.inv.dj m o x (ob_lt h2) hol h3 hox
    subst this
    rw [ho] at h2
    cases h2
    exact hd0 rfl
  let ν' : Nat → Nat → Value := bif hasL ks then (fun p q => if p = i ∧ off ≤ q ∧ q < off + ks.length then us.getD (q - off) Go.undef else g.ν o p q) else g.ν o
  let φ0 : Nat → Prop := fun x => g.φ o x ∨ Ψ x
  let ob' : Ob := .row T md ver' xs'
  have self : (s.objs.set o ob')[o]? = some ob' := List.getElem?_set_self hol
  have h3 : ∀ T2 n, isR3 (s.objs.set o ob') o T2 n → isR3 s.objs o T2 n := fun T2 n hx => by
    obtain ⟨rfl, rfl⟩ := isR3_row self hx
    rw [hxl]
    exact hr3
  have hrh : ∀ T2 ver2 n, isRH (s.objs.set o ob') o T2 ver2 n → ∃ ver, ver ≤ ver2 ∧ isRH s.objs o T2 ver n ∧ (ver2 = ver → ν' = g.ν o) := fun T2 ver2 n hx => by
    obtain ⟨rfl, rfl, rfl⟩ := isRH_row self hx
    refine ⟨ver, ?_, by rw [hxl]; exact hrh0, fun he => ?_⟩
    · cases h : hasL ks with
      | true => have := hver h; omega
      | false => have := hver2 h; omega
    · cases h : hasL ks with
      | true => have := hver h; omega
      | false => simp [ν', h]
  have hheap : ∀ k, k ≠ b → (w.setRow b cur).heap[k]? = w.heap[k]? := fun k hk => setRow_other w b k cur hk
  have hheap' : ∀ k, k < w.heap.size → ¬ Ψ k → ¬ g.φ o k → (w.setRow b cur).heap[k]? = w.heap[k]? := fun k _ _ hk => hheap k fun e => hk (e ▸ hφb)
  have hcg2 : Chg c w g s.objs (w.setRow b cur) (g.upd o ν' φ0 Ψ) (s.objs.set o ob') := .upd hs.inv ho hd0 (by simp) hheap' rfl rfl rfl hΨ (fun x hx => hx.elim .inl fun h => .inr (.inl h)) h3 hrh
  refine ⟨w.setRow b cur, g.upd o ν' φ0 Ψ, fun {U tu v info} hi hl hvc => ?_, hs.upd ho hd0 (by simp) hheap' rfl rfl rfl hΨ (fun x hx => hx.elim .inl fun h => .inr (.inl h)) h3 hrh fun v hv => ?_, hcg2.stp hs.inv⟩
  · have := run_storeVar (P := P) hi hh (by rw [hvc]; omega) (off := i * ti.cells.length + off) (v := v) (by rw [hvc]; exact hroom) (fun u hu => by
      rw [hvc] at hu
      obtain ⟨j, hj, rfl⟩ := List.getElem_of_mem hu
      have hj' : j < us.size := by simpa using hj
      have := hone j (by omega)
      simpa [Array.getD, hj'] using this)
    rw [this, hvc]
    rfl
  · rw [hη] at hv
    cases hv
    refine ⟨_, cap, ti, by rw [hxl], hti, hd, hk, hxf, by rw [hxl]; exact hle, by rw [hxl]; exact hbg, fun _ => ⟨b, cur, fun p q => if p = i ∧ off ≤ q ∧ q < off + ks.length then ψ (q - off) else φs p q, rfl, setRow_heap w b vs cur T (0, 0) hh, by rw [hcs, hsz], ?_, fun p q x hp hq _ hx => ?_, fun p q p' q' x hp hq hp' hq' _ _ hx hx' => ?_, fun p q hp hq _ => ?_, fun p q e hp hq => ?_⟩⟩
    · simp [Gh.upd, φ0, hφb]
    · rw [hxl] at hp
      have e1 : (g.upd o ν' φ0 Ψ).φ o x ↔ φ0 x := by simp [Gh.upd]
      rw [e1]
      by_cases h : p = i ∧ off ≤ q ∧ q < off + ks.length
      · simp only [if_pos h] at hx
        have hp' : Ψ x := ⟨q - off, by omega, hx⟩
        exact ⟨.inr hp', fun e => hΨo x hp' (e ▸ hφb)⟩
      · simp only [if_neg h] at hx
        have := hφs p q x hp hq (fun hh => h (hsk p q hh)) hx
        exact ⟨.inl this.1, this.2⟩
    · rw [hxl] at hp hp'
      have one : ∀ {p q : Nat}, p < xs.length → q < ti.cells.length → ¬ (p = i ∧ off ≤ q ∧ q < off + ks.length) → φs p q x → g.φ o x := fun hp hq hn h => (hφs _ _ x hp hq (fun hh => hn (hsk _ _ hh)) h).1
      by_cases h : p = i ∧ off ≤ q ∧ q < off + ks.length <;> by_cases h' : p' = i ∧ off ≤ q' ∧ q' < off + ks.length
      · simp only [if_pos h] at hx
        simp only [if_pos h'] at hx'
        have := hab.dj (q - off) (q' - off) x (by omega) (by omega) hx hx'
        exact ⟨by rw [h.1, h'.1], by omega⟩
      · simp only [if_pos h] at hx
        simp only [if_neg h'] at hx'
        exact (hΨo x ⟨q - off, by omega, hx⟩ (one hp' hq' h' hx')).elim
      · simp only [if_neg h] at hx
        simp only [if_pos h'] at hx'
        exact (hΨo x ⟨q' - off, by omega, hx'⟩ (one hp hq h hx)).elim
      · simp only [if_neg h] at hx
        simp only [if_neg h'] at hx'
        exact hdj p q p' q' x hp hq hp' hq' (fun hh => h (hsk _ _ hh)) (fun hh => h' (hsk _ _ hh)) hx hx'
    · rw [hxl] at hp
      rw [hcg p q hq, hxg p q]
      by_cases h : p = i ∧ off ≤ q ∧ q < off + ks.length
      · simp only [if_pos h]
        have := hab.rep (q - off) (by omega)
        have h2 : RepW tt w (Now c w g s.objs.length) md (us.getD (q - off) Go.undef) (ds.getD (q - off) .z) (ψ (q - off)) := by
          simpa [List.getD_eq_getElem?_getD, Array.getD_eq_getD_getElem?] using this
        exact h2.mono (hcg2.now hs.inv) fun x hx => ⟨hx, hheap x fun e => hΨo x ⟨q - off, by omega, hx⟩ (e ▸ hφb)⟩
      · simp only [if_neg h]
        exact (hr p q hp hq (fun hh => h (hsk _ _ hh))).mono (hcg2.now hs.inv) fun x hx => ⟨hx, hheap x (hφs p q x hp hq (fun hh => h (hsk _ _ hh)) hx).2⟩
    · rw [hxl] at hp
      have hqlt : q < ti.cells.length := (List.getElem?_eq_some_iff.1 hq).1
      have e1 : (g.upd o ν' φ0 Ψ).ν o p q = ν' p q := by simp [Gh.upd]
      rw [e1, hcg p q hqlt]
      by_cases h : p = i ∧ off ≤ q ∧ q < off + ks.length
      · have hlk : hasL ks = true := by
          cases hl : hasL ks with
          | true => rfl
          | false =>
            have h4 : ks[q - off]? = some (.list e) := by rw [← hkj (q - off) (by omega), show off + (q - off) = q by omega]; exact hq
            have := hasL_false hl _ (List.mem_of_getElem? h4)
            cases this
        simp only [if_pos h, ν', hlk, cond_true]
        exact ⟨trivial, hone (q - off) (by omega)⟩
      · rw [if_neg h]
        have e2 : ν' p q = g.ν o p q := by
          cases hl : hasL ks <;> simp [ν', hl, h]
        rw [e2]
        exact hν p q e hp hq

end Go.Proofs.EN
/- Rows owned less deep; stores. -/
namespace Go.Proofs.EN
open Go
set_option linter.unusedVariables false
set_option linter.unusedSimpArgs false
variable {tt : TypeId → Option TI} {P : Program} {c : Ctx} {w : World} {g : Gh} {os : List Ob} {S : Nat → Prop}

theorem le_up {m' m : Md} (h : Md.le m' m.up = true) : m' = .lv 0 ∨ ∃ m1, m' = m1.up ∧ Md.le m1 m = true := by
  cases m' with
  | lv n =>
    cases n with
    | zero => exact .inl rfl
    | succ n =>
      right
      refine ⟨.lv n, rfl, ?_⟩
      cases m with
      | lv k =>
        have h : Nat.ble (n + 1) (k + 1) = true := h
        have := Nat.le_of_ble_eq_true h
        exact Nat.ble_eq_true_of_le (by omega)
      | deep => rfl
  | deep =>
    right
    cases m with
    | lv k => cases h
    | deep => exact ⟨.deep, rfl, rfl⟩
theorem min_le (a b : Md) : Md.le (Md.min a b) a = true ∧ Md.le (Md.min a b) b = true := by
  cases a with
  | deep =>
    cases b with
    | deep => exact ⟨rfl, rfl⟩
    | lv n => exact ⟨rfl, Nat.ble_eq_true_of_le (Nat.le_refl n)⟩
  | lv m =>
    cases b with
    | deep => exact ⟨Nat.ble_eq_true_of_le (Nat.le_refl m), rfl⟩
    | lv n =>
      simp only [Md.min]
      cases h : Nat.ble m n with
      | true => exact ⟨Nat.ble_eq_true_of_le (Nat.le_refl m), h⟩
      | false =>
        have : ¬ m ≤ n := fun h' => by rw [Nat.ble_eq_true_of_le h'] at h; cases h
        exact ⟨Nat.ble_eq_true_of_le (by omega), Nat.ble_eq_true_of_le (Nat.le_refl n)⟩
theorem zero_le (m : Md) : Md.le (.lv 0) m = true := by cases m <;> rfl

theorem RepW.weak {md : Md} {v : Value} {d : D} {φ : Nat → Prop} (h : RepW tt w S md v d φ) : ∀ md', Md.le md' md = true →
    ∃ φ' : Nat → Prop, (∀ b, φ' b → φ b) ∧ ∀ S' : Nat → Prop, (∀ b, S b → S' b) → (∀ b, φ b → ¬ φ' b → S' b) → RepW tt w S' md' v d φ' := by
  induction h with
  | froz v d φ h =>
    intro md' hle
    have : md' = .lv 0 := by
      cases md' with
      | lv n =>
        have hle : Nat.ble n 0 = true := hle
        have := Nat.le_of_ble_eq_true hle
        have : n = 0 := by omega
        rw [this]
      | deep => cases hle
    subst this
    exact ⟨fun _ => False, fun b hb => hb.elim, fun S' hS _ => .froz _ _ _ (h.mono fun b hb => ⟨hS b hb, rfl⟩)⟩
  | sc md v d φ h hs => exact fun md' _ => ⟨fun _ => False, fun b hb => hb.elim, fun S' hS _ => .sc _ _ _ _ (h.mono fun b hb => ⟨hS b hb, rfl⟩) hs⟩
  | zero md T a φ => exact fun md' _ => ⟨fun _ => False, fun b hb => hb.elim, fun S' hS _ => .zero _ _ _ _⟩
  | list md T ti xs cap b φ vs φs ht hd hk hcap hc0 hb hfit hh hsz hφb hφs hdj hr ih =>
    intro md' hle
    rcases le_up hle with rfl | ⟨m1, rfl, hle1⟩
    · refine ⟨fun _ => False, fun b hb => hb.elim, fun S' hS hF => .froz _ _ _ ?_⟩
      exact (RepW.list md T ti xs cap b φ vs φs ht hd hk hcap hc0 hb hfit hh hsz hφb hφs hdj hr).frz hS fun x hx => hF x hx (fun h => h)
    · have ex : ∀ i j, ∃ φ' : Nat → Prop, i < xs.length → j < ti.cells.length → (∀ b, φ' b → φs i j b) ∧ ∀ S' : Nat → Prop, (∀ b, S b → S' b) → (∀ b, φs i j b → ¬ φ' b → S' b) → RepW tt w S' m1 (vs.getD (i * ti.cells.length + j) Go.undef) ((xs.getD i []).getD j .z) φ' := by
        intro i j
        by_cases hi : i < xs.length
        · by_cases hj : j < ti.cells.length
          · obtain ⟨φ', h1, h2⟩ := ih i j hi hj m1 hle1
            exact ⟨φ', fun _ _ => ⟨h1, h2⟩⟩
          · exact ⟨fun _ => False, fun _ h => absurd h hj⟩
        · exact ⟨fun _ => False, fun h => absurd h hi⟩
      let φ' : Nat → Nat → Nat → Prop := fun i j => (ex i j).choose
      have hφ' : ∀ i j, i < xs.length → j < ti.cells.length → (∀ b, φ' i j b → φs i j b) ∧ ∀ S' : Nat → Prop, (∀ b, S b → S' b) → (∀ b, φs i j b → ¬ φ' i j b → S' b) → RepW tt w S' m1 (vs.getD (i * ti.cells.length + j) Go.undef) ((xs.getD i []).getD j .z) (φ' i j) := fun i j => (ex i j).choose_spec
      refine ⟨fun x => x = b ∨ ∃ i j, i < xs.length ∧ j < ti.cells.length ∧ φ' i j x, ?_, fun S' hS hF => ?_⟩
      · rintro x (rfl | ⟨i, j, hi, hj, hx⟩)
        · exact hφb
        · exact (hφs i j x hi hj ((hφ' i j hi hj).1 x hx)).1
      · refine .list m1 T ti xs cap b _ vs φ' ht hd hk hcap hc0 hb hfit hh hsz (.inl rfl) (fun i j x hi hj hx => ⟨.inr ⟨i, j, hi, hj, hx⟩, (hφs i j x hi hj ((hφ' i j hi hj).1 x hx)).2⟩)
          (fun i j i' j' x hi hj hi' hj' hx hx' => hdj i j i' j' x hi hj hi' hj' ((hφ' i j hi hj).1 x hx) ((hφ' i' j' hi' hj').1 x hx')) (fun i j hi hj => ?_)
        refine (hφ' i j hi hj).2 S' hS fun x hx hn => ?_
        have hx1 := hφs i j x hi hj hx
        refine hF x hx1.1 ?_
        rintro (rfl | ⟨i', j', hi', hj', hx'⟩)
        · exact hx1.2 rfl
        · obtain ⟨rfl, rfl⟩ := hdj i j i' j' x hi hj hi' hj' hx ((hφ' i' j' hi' hj').1 x hx')
          exact hn hx'

/-- A row is owned less deep from now on. -/
theorem weak_step {nt : Nat} {a : Act} {s : St} (hs : RepSt tt c w g nt a s) {o : Nat} {T : TypeId} {md md' : Md} {ver : Nat} {xs : List (List D)} (ho : s.objs[o]? = some (.row T md ver xs)) (hle : Md.le md' md = true) :
    ∃ g', RepSt tt c w g' nt a ⟨s.tmps, s.objs.set o (.row T md' ver xs)⟩ ∧ Stp c w g s.objs w g' (s.objs.set o (.row T md' ver xs)) ∧ g'.η = g.η ∧ g'.ν = g.ν ∧ (∀ k b, k ≠ o → (g'.φ k b ↔ g.φ k b)) ∧ ∀ b, g'.φ o b → g.φ o b := by
  have hol := ob_lt ho
  obtain ⟨v, hv⟩ := hs.inv.eta ho
  obtain ⟨a0, cap, ti, rfl, ht, hd, hk, hfit, hlc, hbg, hc⟩ := hs.inv.ob o _ v ho hv
  have self : (s.objs.set o (.row T md' ver xs))[o]? = some (.row T md' ver xs) := List.getElem?_set_self hol
  -- the blocks that stay
  have ex : ∃ φ' : Nat → Prop, (∀ b, φ' b → g.φ o b) ∧ ∀ S' : Nat → Prop, (∀ b, Now c w g s.objs.length b → S' b) → (∀ b, g.φ o b → ¬ φ' b → S' b) → RowX tt w S' (fun _ _ => False) md' (.slice a0 xs.length cap) T xs φ' (g.ν o) := by
    rcases Nat.eq_zero_or_pos cap with h0 | h0
    · exact ⟨fun _ => False, fun b hb => hb.elim, fun S' _ _ => ⟨a0, cap, ti, rfl, ht, hd, hk, hfit, hlc, hbg, fun h => by omega⟩⟩
    · obtain ⟨b, vs, φs, rfl, hh, hsz, hφb, hφs, hdj, hr, hν⟩ := hc h0
      have ex : ∀ i j, ∃ φ' : Nat → Prop, i < xs.length → j < ti.cells.length → (∀ b, φ' b → φs i j b) ∧ ∀ S' : Nat → Prop, (∀ b, Now c w g s.objs.length b → S' b) → (∀ b, φs i j b → ¬ φ' b → S' b) → RepW tt w S' md' (vs.getD (i * ti.cells.length + j) Go.undef) ((xs.getD i []).getD j .z) φ' := by
        intro i j
        by_cases hi : i < xs.length
        · by_cases hj : j < ti.cells.length
          · obtain ⟨φ', h1, h2⟩ := (hr i j hi hj (fun h => h)).weak md' hle
            exact ⟨φ', fun _ _ => ⟨h1, h2⟩⟩
          · exact ⟨fun _ => False, fun _ h => absurd h hj⟩
        · exact ⟨fun _ => False, fun h => absurd h hi⟩
      let φ' : Nat → Nat → Nat → Prop := fun i j => (ex i j).choose
      have hφ' : ∀ i j, i < xs.length → j < ti.cells.length → (∀ b, φ' i j b → φs i j b) ∧ ∀ S' : Nat → Prop, (∀ b, Now c w g s.objs.length b → S' b) → (∀ b, φs i j b → ¬ φ' i j b → S' b) → RepW tt w S' md' (vs.getD (i * ti.cells.length + j) Go.undef) ((xs.getD i []).getD j .z) (φ' i j) := fun i j => (ex i j).choose_spec
      refine ⟨fun x => x = b ∨ ∃ i j, i < xs.length ∧ j < ti.cells.length ∧ φ' i j x, ?_, fun S' hS hF => ⟨_, cap, ti, rfl, ht, hd, hk, hfit, hlc, hbg, fun _ => ⟨b, vs, φ', rfl, hh, hsz, .inl rfl, fun i j x hi hj _ hx => ⟨.inr ⟨i, j, hi, hj, hx⟩, (hφs i j x hi hj (fun h => h) ((hφ' i j hi hj).1 x hx)).2⟩,
          fun i j i' j' x hi hj hi' hj' _ _ hx hx' => hdj i j i' j' x hi hj hi' hj' (fun h => h) (fun h => h) ((hφ' i j hi hj).1 x hx) ((hφ' i' j' hi' hj').1 x hx'), fun i j hi hj _ => ?_, hν⟩⟩⟩
      · rintro x (rfl | ⟨i, j, hi, hj, hx⟩)
        · exact hφb
        · exact (hφs i j x hi hj (fun h => h) ((hφ' i j hi hj).1 x hx)).1
      · refine (hφ' i j hi hj).2 S' hS fun x hx hn => ?_
        have hx1 := hφs i j x hi hj (fun h => h) hx
        refine hF x hx1.1 ?_
        rintro (rfl | ⟨i', j', hi', hj', hx'⟩)
        · exact hx1.2 rfl
        · obtain ⟨rfl, rfl⟩ := hdj i j i' j' x hi hj hi' hj' (fun h => h) (fun h => h) hx ((hφ' i' j' hi' hj').1 x hx')
          exact hn hx'
  obtain ⟨φ', hsub, hX⟩ := ex
  have h3 : ∀ T2 n, isR3 (s.objs.set o (.row T md' ver xs)) o T2 n → isR3 s.objs o T2 n := fun T2 n hx => by
    obtain ⟨rfl, rfl⟩ := isR3_row self hx
    exact .inl ⟨md, ver, xs, ho, rfl⟩
  have hrh : ∀ T2 ver2 n, isRH (s.objs.set o (.row T md' ver xs)) o T2 ver2 n → ∃ ver, ver ≤ ver2 ∧ isRH s.objs o T2 ver n ∧ (ver2 = ver → g.ν o = g.ν o) := fun T2 ver2 n hx => by
    obtain ⟨rfl, rfl, rfl⟩ := isRH_row self hx
    exact ⟨_, Nat.le_refl _, .inl ⟨md, xs, ho, rfl⟩, fun _ => rfl⟩
  have hcg : Chg c w g s.objs w (g.upd o (g.ν o) φ' (fun _ => False)) (s.objs.set o (.row T md' ver xs)) := .upd hs.inv ho (by simp) (Nat.le_refl _) (fun _ _ _ _ => rfl) rfl rfl rfl (fun b hb => hb.elim) (fun b hb => .inl (hsub b hb)) h3 hrh
  refine ⟨_, hs.upd ho (by simp) (Nat.le_refl _) (fun _ _ _ _ => rfl) rfl rfl rfl (fun b hb => hb.elim) (fun b hb => .inl (hsub b hb)) h3 hrh fun v' hv' => ?_, hcg.stp hs.inv, rfl, ?_, fun k b hk => by simp [Gh.upd, hk], fun b hb => hsub b (by simpa [Gh.upd] using hb)⟩
  · rw [hv] at hv'
    cases hv'
    have e1 : (g.upd o (g.ν o) φ' (fun _ => False)).φ o = φ' := by funext x; simp [Gh.upd]
    have e2 : (g.upd o (g.ν o) φ' (fun _ => False)).ν o = g.ν o := by simp [Gh.upd]
    show RowX _ _ _ _ _ _ _ _ _ _
    rw [e1, e2]
    refine hX _ (fun b hb => (hcg.now hs.inv b hb).1) fun b hb hn => .inr ?_
    have hown := hs.inv.own o b hol hb
    refine ⟨hown.1, hown.2, ?_⟩
    rintro ⟨k, hkl, hkb⟩
    rw [List.length_set] at hkl
    by_cases hko : k = o
    · subst hko
      rw [e1] at hkb
      exact hn hkb
    · have : g.φ k b := by simpa [Gh.upd, hko] using hkb
      exact hko (hs.inv.dj k o b hkl hol this hb)
  · funext k
    by_cases hk : k = o
    · subst hk; simp [Gh.upd]
    · simp [Gh.upd, hk]

end Go.Proofs.EN
