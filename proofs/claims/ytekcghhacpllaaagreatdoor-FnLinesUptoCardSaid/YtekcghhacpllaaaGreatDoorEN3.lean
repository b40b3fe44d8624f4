/- Contracts of functions of this program, by the evaluator EN. No conditions but those that each theorem states. -/
import Derived.Test.YtekcghhacpllaaaGreatDoorEN2
import Derived.Laws.Entries
import Derived.Laws.Strings
import Derived.Laws.CopyRow
import Derived.Laws.Append
import Derived.Laws.Tables
import Derived.Laws.StructEq
/- One operation: what the evaluator says is what the machine does. -/
namespace Go.Proofs.EN
open Go
set_option linter.unusedVariables false
set_option linter.unusedSimpArgs false
variable {tt : TypeId → Option TI} {P : Program} {c : Ctx} {w : World} {g : Gh} {os : List Ob} {S : Nat → Prop}

structure RepSt (tt : TypeId → Option TI) (c : Ctx) (w : World) (g : Gh) (nt : Nat) (a : Act) (s : St) : Prop where
  inv : Inv tt c w g s.objs
  dfr : a.defers = c.ds
  len : a.tmps.size = nt
  tmp : ∀ t, RepC tt w (Now c w g s.objs.length) g s.objs (a.tmps.getD t Go.undef) (look t s.tmps)

theorem blt_lt {a b : Nat} (h : Nat.blt a b = true) : a < b := by rwa [Nat.blt_eq] at h
theorem lt_blt {a b : Nat} (h : a < b) : Nat.blt a b = true := by rwa [Nat.blt_eq]
theorem ba_eta (b : ByteArray) : (⟨b.data.toList.toArray⟩ : ByteArray) = b := by cases b; simp

theorem rep_ofV (v : Value) : RepC tt w S g os v (ofV v) := by
  unfold ofV
  split
  · exact .d _ _ (.bool _)
  · exact .d _ _ (.int _ _)
  · rename_i s
    cases hb : Nat.ble s.data.toList.length 65536 with
    | false => exact .undef _
    | true =>
      have hb' : s.data.toList.length ≤ 65536 := Nat.le_of_ble_eq_true hb
      have := Rep.str (tt := tt) (w := w) (S := S) s.data.toList (by unfold big; omega)
      rw [ba_eta] at this
      exact .d _ _ this
  · exact .cap0 none
  · exact .d _ _ .nilI
  · exact .nilF
  · exact .undef _

theorem RepSt.ev {nt : Nat} {a : Act} {s : St} (h : RepSt tt c w g nt a s) (x : Operand) : RepC tt w (Now c w g s.objs.length) g s.objs (a.eval x) (s.ev x) := by
  cases x with
  | tmp t => exact h.tmp t
  | const v => exact rep_ofV v
  | global _ => exact .undef _
  | func f => exact .func f [] #[] rfl (fun i hi => by simp at hi)

theorem RepSt.put {nt : Nat} {a : Act} {s : St} (h : RepSt tt c w g nt a s) (dst : Option Tmp) {v : Value} {x : C} (hx : RepC tt w (Now c w g s.objs.length) g s.objs v x) : RepSt tt c w g nt (a.put dst v) (s.put nt dst x) := by
  cases dst with
  | none => exact h
  | some t =>
    simp only [Act.put, St.put]
    cases ht : Nat.blt t nt with
    | false =>
      have : ¬ t < nt := fun h => by rw [lt_blt h] at ht; cases ht
      refine ⟨h.inv, h.dfr, by simpa using h.len, fun i => ?_⟩
      rw [Array.setIfInBounds_eq_of_size_le (by rw [h.len]; exact Nat.le_of_not_lt this)]
      exact h.tmp i
    | true =>
      have ht' : t < nt := blt_lt ht
      refine ⟨h.inv, h.dfr, by simpa using h.len, fun i => ?_⟩
      simp only [cond_true, look_cons]
      cases hti : Nat.beq t i with
      | true =>
        have := Nat.eq_of_beq_eq_true hti
        subst this
        have h1 : t < a.tmps.size := by rw [h.len]; exact ht'
        simp [Array.getD, h1]
        exact hx
      | false =>
        have hne : t ≠ i := fun e => by rw [e, show Nat.beq i i = true from Nat.beq_refl i] at hti; cases hti
        simp only [cond_false, Array.getD_eq_getD_getElem?, Array.getElem?_setIfInBounds_ne hne]
        have := h.tmp i
        simpa [Array.getD_eq_getD_getElem?] using this

/-! ### What is written out -/
theorem sqNat_eq {A : Type} : ∀ (n : Nat) (K : Nat → A), sqNat n K = K n
  | 0, _ => rfl
  | n + 1, K => by
    show sqNat n (fun n => K (n + 1)) = _
    rw [sqNat_eq n]
theorem C.sq0_eq {A : Type} (c : C) (K : C → A) : c.sq0 K = K c := by cases c <;> first | rfl | exact sqNat_eq _ _
theorem sqL0_eq {A : Type} : ∀ (cs : List C) (K : List C → A), sqL0 cs K = K cs
  | [], _ => rfl
  | c :: r, K => by
    show c.sq0 (fun c => sqL0 r fun r => K (c :: r)) = _
    rw [C.sq0_eq, sqL0_eq]
theorem C.sq1_eq {A : Type} (c : C) (K : C → A) : c.sq1 K = K c := by cases c <;> first | rfl | exact sqL0_eq _ _ | exact sqNat_eq _ _
theorem sqL1_eq {A : Type} : ∀ (cs : List C) (K : List C → A), sqL1 cs K = K cs
  | [], _ => rfl
  | c :: r, K => by
    show c.sq1 (fun c => sqL1 r fun r => K (c :: r)) = _
    rw [C.sq1_eq, sqL1_eq]
theorem C.sq_eq {A : Type} (c : C) (K : C → A) : c.sq K = K c := by cases c <;> first | rfl | exact sqL1_eq _ _ | exact sqNat_eq _ _
theorem sqL_eq {A : Type} : ∀ (cs : List C) (K : List C → A), sqL cs K = K cs
  | [], _ => rfl
  | c :: r, K => by
    show c.sq (fun c => sqL r fun r => K (c :: r)) = _
    rw [C.sq_eq, sqL_eq]
theorem Md.sq_eq {A : Type} (m : Md) (K : Md → A) : m.sq K = K m := by cases m <;> rfl
theorem Ob.sq_eq {A : Type} (o : Ob) (K : Ob → A) : o.sq K = K o := by
  cases o <;> simp [Ob.sq, sqL_eq, Md.sq_eq]
theorem sqO_eq {A : Type} : ∀ (os : List Ob) (K : List Ob → A), sqO os K = K os
  | [], _ => rfl
  | o :: r, K => by
    show o.sq (fun o => sqO r fun r => K (o :: r)) = _
    rw [Ob.sq_eq, sqO_eq]
theorem sqT_eq {A : Type} : ∀ (ts : List (Nat × C)) (K : List (Nat × C) → A), sqT ts K = K ts
  | [], _ => rfl
  | (t, c) :: r, K => by
    show c.sq (fun c => sqT r fun r => K ((t, c) :: r)) = _
    rw [C.sq_eq, sqT_eq]
theorem St.sq_eq {A : Type} (s : St) (K : St → A) : s.sq K = K s := by
  cases s; simp [St.sq, sqT_eq, sqO_eq]
theorem putK_eq {A : Type} (nt : Nat) (s : St) (dst : Option Tmp) (c : C) (K : St → A) : s.putK nt dst c K = K (s.put nt dst c) := by
  cases s
  cases dst with
  | none => simp [St.putK, St.put, sqO_eq]
  | some t =>
    simp only [St.putK, St.put]
    cases Nat.blt t nt <;> simp [sqO_eq, C.sq_eq]
theorem sqN_eq {A : Type} : ∀ (ns : List Nat) (K : List Nat → A), sqN ns K = K ns
  | [], _ => rfl
  | n :: r, K => by
    show sqNat n (fun n => sqN r (fun r => K (n :: r))) = _
    rw [sqNat_eq, sqN_eq]
theorem bsel_intro {b : Bool} {x y : R} (h1 : b = true → x) (h2 : b = false → y) : bsel b x y := by
  cases b
  · exact h2 rfl
  · exact h1 rfl
theorem ikBeq_eq : ∀ {a b : IntKind}, ikBeq a b = true → a = b := by
  intro a b h; cases a <;> cases b <;> first | rfl | cases h

/-! ### Inversions -/
theorem RepC.d_inv {v : Value} {x : D} (h : RepC tt w S g os v (.d x)) : Rep tt w S v x := by cases h; assumption
theorem Rep.int_inv {v : Value} {k : IntKind} {n : Int} (h : Rep tt w S v (.int k n)) : v = .int k n := by cases h; rfl
theorem Rep.bool_inv {v : Value} {b : Bool} (h : Rep tt w S v (.bool b)) : v = .bool b := by cases h; rfl
theorem Rep.str_inv {v : Value} {l : Str} (h : Rep tt w S v (.str l)) : v = .string ⟨l.toArray⟩ := by cases h; rfl
theorem Rep.str_le {v : Value} {l : Str} (h : Rep tt w S v (.str l)) : l.length ≤ big := by cases h; assumption
theorem RepC.int_inv {v : Value} {k : IntKind} {n : Int} (h : RepC tt w S g os v (.d (.int k n))) : v = .int k n := h.d_inv.int_inv
theorem RepC.bool_inv {v : Value} {b : Bool} (h : RepC tt w S g os v (.d (.bool b))) : v = .bool b := h.d_inv.bool_inv
theorem RepC.str_inv {v : Value} {l : Str} (h : RepC tt w S g os v (.d (.str l))) : v = .string ⟨l.toArray⟩ := h.d_inv.str_inv

theorem rep_int (k : IntKind) (n : Int) : RepC tt w S g os (.int k n) (.d (.int k n)) := .d _ _ (.int _ _)
theorem rep_bool (b : Bool) : RepC tt w S g os (.bool b) (.d (.bool b)) := .d _ _ (.bool _)
theorem rep_str (l : Str) (h : l.length ≤ big) : RepC tt w S g os (.string ⟨l.toArray⟩) (.d (.str l)) := .d _ _ (.str _ h)

theorem ba_append (a b : Str) : (⟨a.toArray⟩ : ByteArray) ++ ⟨b.toArray⟩ = ⟨(a ++ b).toArray⟩ := by
  apply ByteArray.ext
  simp [ByteArray.data_append]
theorem ba_size (a : Str) : (⟨a.toArray⟩ : ByteArray).size = a.length := by simp [ByteArray.size]
theorem strLt_eq : ∀ a b : Str, strLt a b = Op.bytesLess a b
  | _, [] => by simp [strLt, Op.bytesLess]
  | [], _ :: _ => by simp [strLt, Op.bytesLess]
  | a :: x, b :: y => by simp [strLt, Op.bytesLess, strLt_eq x y]

/-! ### Structs compared -/
theorem bif_some2 {α : Type} {b : Bool} {x : Option α} {fin : α} (h : (bif b then x else none) = some fin) : b = true ∧ x = some fin := by
  cases b
  · cases h
  · exact ⟨rfl, h⟩
theorem bif_some3 {b : Bool} {x : R} (h : (bif b then x else False)) : b = true ∧ x := by
  cases b
  · exact h.elim
  · exact ⟨rfl, h⟩
def eqV : Value → Value → Bool
  | .bool a, .bool b => a == b
  | .int _ a, .int _ b => a == b
  | .string a, .string b => a.toList == b.toList
  | _, _ => false
def kindV : CK → Value → Bool
  | .bool, .bool _ => true
  | .int k, .int j _ => decide (j = k)
  | .str, .string _ => true
  | _, _ => false
def eqRun (xs ys : Array Value) (off n : Nat) : Bool := (List.range n).all fun i => eqV (xs.getD (off + i) Go.undef) (ys.getD (off + i) Go.undef)
theorem eqRun_add (xs ys : Array Value) (off a b : Nat) : eqRun xs ys off (a + b) = (eqRun xs ys off a && eqRun xs ys (off + a) b) := by
  simp only [eqRun, List.range_add, List.all_append, List.all_map, Function.comp_def, Nat.add_assoc]
theorem eqRun_congr {xs ys xs' ys' : Array Value} {off off' n : Nat} (h : ∀ i, i < n → xs'.getD (off' + i) Go.undef = xs.getD (off + i) Go.undef ∧ ys'.getD (off' + i) Go.undef = ys.getD (off + i) Go.undef) : eqRun xs' ys' off' n = eqRun xs ys off n := by
  unfold eqRun
  refine Bool.eq_iff_iff.2 ?_
  simp only [List.all_eq_true, List.mem_range]
  exact ⟨fun g i hi => by rw [← (h i hi).1, ← (h i hi).2]; exact g i hi, fun g i hi => by rw [(h i hi).1, (h i hi).2]; exact g i hi⟩
def Kinds (ks : List CK) (xs : Array Value) (off : Nat) : Prop := off + ks.length ≤ xs.size ∧ ∀ i k, ks[i]? = some k → kindV k (xs.getD (off + i) Go.undef) = true
theorem Kinds.append {ks js : List CK} {xs : Array Value} {off : Nat} (h : Kinds (ks ++ js) xs off) : Kinds ks xs off ∧ Kinds js xs (off + ks.length) := by
  obtain ⟨h1, h2⟩ := h
  rw [List.length_append] at h1
  refine ⟨⟨by omega, fun i k hk => h2 i k ?_⟩, ⟨by omega, fun i k hk => ?_⟩⟩
  · rw [List.getElem?_append_left (List.getElem?_eq_some_iff.1 hk).1]; exact hk
  · rw [Nat.add_assoc]
    refine h2 (ks.length + i) k ?_
    rw [List.getElem?_append_right (by omega), Nat.add_sub_cancel_left]; exact hk
theorem extract_getD {xs : Array Value} {off s i : Nat} (h : off + s ≤ xs.size) (hi : i < s) : (xs.extract off (off + s)).getD i Go.undef = xs.getD (off + i) Go.undef := by
  simp only [Array.getD_eq_getD_getElem?, Array.getElem?_extract]
  rw [if_pos (by omega)]
theorem Kinds.extract {ks : List CK} {xs : Array Value} {off : Nat} (h : Kinds ks xs off) : Kinds ks (xs.extract off (off + ks.length)) 0 := by
  refine ⟨by simp [Array.size_extract]; have := h.1; omega, fun i k hk => ?_⟩
  have := (List.getElem?_eq_some_iff.1 hk).1
  rw [Nat.zero_add, extract_getD h.1 this]
  exact h.2 i k hk
def eqPart (P : Program) (n : Nat) (T : TypeId) (ks : List CK) : Prop := ∀ (d : Nat) (w : World) (xs ys : Array Value) (off : Nat), n ≤ d → Kinds ks xs off → Kinds ks ys off →
  ∃ a b, (part T xs off).run P w = .ok a w ∧ (part T ys off).run P w = .ok b w ∧ (Op.equalIn d T a b).run P w = .ok (eqRun xs ys off ks.length) w
theorem eqFs_sound {P : Program} {n : Nat} {f : TypeId → Option (List CK)} (hf : ∀ T ks, f T = some ks → eqPart P n T ks) : ∀ {fs : List Field} {off : Nat} {ks : List CK}, eqFs f fs off = some ks →
    ∀ {d : Nat} {w : World} {xs ys : Array Value}, n ≤ d → Kinds ks xs off → Kinds ks ys off → (Op.eqFields d xs ys fs).run P w = .ok (eqRun xs ys off ks.length) w
  | [], off, ks, h, d, w, xs, ys, hd, hx, hy => by
    simp only [eqFs, Option.some.injEq] at h
    subst h
    simp [Op.eqFields, eqRun]
  | x :: r, off, ks, h, d, w, xs, ys, hd, hx, hy => by
    simp only [eqFs] at h
    cases hc : (x.name != "_") && Nat.beq x.offset off with
    | false => rw [hc] at h; cases h
    | true =>
      rw [hc] at h
      simp only [cond_true] at h
      simp only [Bool.and_eq_true, bne_iff_ne, ne_eq] at hc
      have ho := Nat.eq_of_beq_eq_true hc.2
      split at h
      · rename_i k1 h1
        split at h
        · rename_i k2 h2
          cases h
          obtain ⟨hx1, hx2⟩ := hx.append
          obtain ⟨hy1, hy2⟩ := hy.append
          obtain ⟨a, b, e1, e2, e3⟩ := hf _ _ h1 d w xs ys off hd hx1 hy1
          have ih := eqFs_sound hf h2 (w := w) hd hx2 hy2
          rw [List.length_append, eqRun_add]
          simp only [Op.eqFields, ne_eq, hc.1, not_false_eq_true, if_true, ho, Sem.run_bind, e1, e2, e3, Result.andThen_ok, Sem.run_ite]
          cases he : eqRun xs ys off k1.length with
          | true => simp [ih]
          | false => simp
        · cases h
      · cases h
theorem eqKs_struct {P : Program} {n : Nat} (hf : ∀ T ks, eqKs P n T = some ks → eqPart P n T ks) {T : TypeId} {fs : Array Field} {ks : List CK} (hu : P.underlying T = some (.struct fs)) (h : eqKs P (n + 1) T = some ks) {d : Nat} {w : World} {xs ys : Array Value} (hd : n + 1 ≤ d)
    (hx : Kinds ks xs 0) (hy : Kinds ks ys 0) : (Op.equalIn d T (.agg xs) (.agg ys)).run P w = .ok (eqRun xs ys 0 ks.length) w := by
  obtain ⟨d, rfl⟩ : ∃ e, d = e + 1 := ⟨d - 1, by omega⟩
  simp only [eqKs, hu] at h
  cases hs : P.stoodInHeld T with
  | true => rw [hs] at h; cases h
  | false =>
    rw [hs] at h
    simp only [cond_false] at h
    split at h
    · rename_i k1 i h1 h2
      obtain ⟨_, h3⟩ := bif_some2 h
      cases h3
      have hfo : P.fieldsOf T = fs := by simp [Program.fieldsOf, hu]
      rw [run_equalIn_struct w d T xs ys (by rw [hfo]; exact hu) hs, hfo]
      exact eqFs_sound hf h1 (by omega) hx hy
    · cases h
theorem eqKs_sound (P : Program) : ∀ (n : Nat) (T : TypeId) (ks : List CK), eqKs P n T = some ks → eqPart P n T ks
  | 0, T, ks, h => by cases h
  | n + 1, T, ks, h => by
    intro d w xs ys off hd hx hy
    have h0 := h
    simp only [eqKs] at h
    have one : ∀ {k : CK} (zs : Array Value), Kinds [k] zs off → zs[off]? = some (zs.getD off Go.undef) ∧ kindV k (zs.getD off Go.undef) = true := fun {k} zs hz => by
      have h1 := hz.1
      simp only [List.length_cons, List.length_nil] at h1
      exact ⟨by simp [Array.getD_eq_getD_getElem?, Array.getElem?_eq_getElem (show off < zs.size by omega)], by simpa using hz.2 0 k rfl⟩
    obtain ⟨d, rfl⟩ : ∃ e, d = e + 1 := ⟨d - 1, by omega⟩
    split at h
    · rename_i hu
      cases h
      obtain ⟨x1, x2⟩ := one xs hx
      obtain ⟨y1, y2⟩ := one ys hy
      generalize xs.getD off Go.undef = a at x1 x2
      generalize ys.getD off Go.undef = b at y1 y2
      refine ⟨a, b, by simp [part, isAgg, run_underlying hu, x1], by simp [part, isAgg, run_underlying hu, y1], ?_⟩
      cases a <;> simp [kindV] at x2
      cases b <;> simp [kindV] at y2
      rename_i a b
      rw [run_equalIn_bool w d T a b hu]
      simp [eqRun, List.range_succ, Array.getD_eq_getD_getElem?, x1, y1, eqV]
    · rename_i q hu
      cases h
      obtain ⟨x1, x2⟩ := one xs hx
      obtain ⟨y1, y2⟩ := one ys hy
      generalize xs.getD off Go.undef = a at x1 x2
      generalize ys.getD off Go.undef = b at y1 y2
      refine ⟨a, b, by simp [part, isAgg, run_underlying hu, x1], by simp [part, isAgg, run_underlying hu, y1], ?_⟩
      cases a <;> simp [kindV] at x2
      cases b <;> simp [kindV] at y2
      subst x2 y2
      rw [run_equalIn_int w d T _ _ _ _ hu]
      simp [eqRun, List.range_succ, Array.getD_eq_getD_getElem?, x1, y1, eqV]
    · rename_i hu
      cases h
      obtain ⟨x1, x2⟩ := one xs hx
      obtain ⟨y1, y2⟩ := one ys hy
      generalize xs.getD off Go.undef = a at x1 x2
      generalize ys.getD off Go.undef = b at y1 y2
      refine ⟨a, b, by simp [part, isAgg, run_underlying hu, x1], by simp [part, isAgg, run_underlying hu, y1], ?_⟩
      cases a <;> simp [kindV] at x2
      cases b <;> simp [kindV] at y2
      rw [run_equalIn_string w d T _ _ hu]
      simp [eqRun, List.range_succ, Array.getD_eq_getD_getElem?, x1, y1, eqV]
    · rename_i fs hu
      have hsz : ∃ i, P.info? T = some i ∧ i.size = ks.length := by
        cases hs : P.stoodInHeld T with
        | true => rw [hs] at h; cases h
        | false =>
          rw [hs] at h
          simp only [cond_false] at h
          split at h
          · rename_i k1 i h1 h2
            obtain ⟨h4, h3⟩ := bif_some2 h
            cases h3
            exact ⟨i, h2, Nat.eq_of_beq_eq_true h4⟩
          · cases h
      obtain ⟨i, hi, hs⟩ := hsz
      have hp : ∀ zs : Array Value, (part T zs off).run P w = .ok (.agg (zs.extract off (off + ks.length))) w := fun zs => by
        simp [part, isAgg, run_underlying hu, sizeOf, typeInfo, hi, hs]
      refine ⟨_, _, hp xs, hp ys, ?_⟩
      rw [eqKs_struct (eqKs_sound P n) hu h0 hd hx.extract hy.extract]
      congr 1
      exact eqRun_congr fun i hi => ⟨by rw [Nat.zero_add, extract_getD hx.1 hi], by rw [Nat.zero_add, extract_getD hy.1 hi]⟩
    · cases h
theorem eqCs_sound {w : World} {S : Nat → Prop} {g : Gh} {os : List Ob} : ∀ {ks : List CK} {xs ys : List C} {b : Bool}, eqCs ks xs ys = some b → ∀ (vs us : List Value), vs.length = xs.length → us.length = ys.length →
    (∀ i, i < xs.length → RepC tt w S g os (vs.getD i Go.undef) (xs.getD i .undef)) → (∀ i, i < ys.length → RepC tt w S g os (us.getD i Go.undef) (ys.getD i .undef)) →
    xs.length = ks.length ∧ ys.length = ks.length ∧ (∀ i k, ks[i]? = some k → kindV k (vs.getD i Go.undef) = true ∧ kindV k (us.getD i Go.undef) = true) ∧ ((List.range ks.length).all fun i => eqV (vs.getD i Go.undef) (us.getD i Go.undef)) = b
  | [], [], [], b, h, vs, us, hv, hu, hx, hy => by
    cases h
    exact ⟨rfl, rfl, fun i k hk => by simp at hk, rfl⟩
  | .bool :: ks, .d (.bool a) :: xs, .d (.bool b) :: ys, r, h, vs, us, hv, hu, hx, hy => by
    simp only [eqCs] at h
    split at h
    · rename_i r1 h1
      cases h
      match vs, us, hv, hu with
      | v :: vs, u :: us, hv, hu =>
      obtain ⟨e1, e2, e3, e4⟩ := eqCs_sound h1 vs us (by simpa using hv) (by simpa using hu) (fun i hi => by simpa using hx (i + 1) (by simpa using hi)) (fun i hi => by simpa using hy (i + 1) (by simpa using hi))
      have hx0 := hx 0 (by simp)
      have hy0 := hy 0 (by simp)
      simp only [List.getD_cons_zero] at hx0 hy0
      obtain rfl := hx0.bool_inv
      obtain rfl := hy0.bool_inv
      refine ⟨by simp [e1], by simp [e2], fun i k hk => ?_, ?_⟩
      · cases i with
        | zero => simp at hk; subst hk; exact ⟨rfl, rfl⟩
        | succ i => simpa using e3 i k (by simpa using hk)
      · rw [List.length_cons, List.range_succ_eq_map, List.all_cons, List.all_map]
        simp only [List.getD_cons_zero, Function.comp_def, List.getD_cons_succ, Nat.succ_eq_add_one]
        exact congrArg (fun z => (a == b) && z) e4
    · cases h
  | .int q :: ks, .d (.int k1 a) :: xs, .d (.int k2 b) :: ys, r, h, vs, us, hv, hu, hx, hy => by
    simp only [eqCs] at h
    cases hk : ikBeq k1 q && ikBeq k2 q with
    | false => rw [hk] at h; cases h
    | true =>
      rw [hk] at h
      simp only [cond_true] at h
      simp only [Bool.and_eq_true] at hk
      obtain rfl := ikBeq_eq hk.1
      obtain rfl := ikBeq_eq hk.2
      split at h
      · rename_i r1 h1
        cases h
        match vs, us, hv, hu with
        | v :: vs, u :: us, hv, hu =>
        obtain ⟨e1, e2, e3, e4⟩ := eqCs_sound h1 vs us (by simpa using hv) (by simpa using hu) (fun i hi => by simpa using hx (i + 1) (by simpa using hi)) (fun i hi => by simpa using hy (i + 1) (by simpa using hi))
        have hx0 := hx 0 (by simp)
        have hy0 := hy 0 (by simp)
        simp only [List.getD_cons_zero] at hx0 hy0
        obtain rfl := hx0.int_inv
        obtain rfl := hy0.int_inv
        refine ⟨by simp [e1], by simp [e2], fun i k hk => ?_, ?_⟩
        · cases i with
          | zero => simp at hk; subst hk; simp [kindV]
          | succ i => simpa using e3 i k (by simpa using hk)
        · rw [List.length_cons, List.range_succ_eq_map, List.all_cons, List.all_map]
          simp only [List.getD_cons_zero, eqV, Function.comp_def, List.getD_cons_succ, e4]
          congr 1
      · cases h
  | .str :: ks, .d (.str a) :: xs, .d (.str b) :: ys, r, h, vs, us, hv, hu, hx, hy => by
    simp only [eqCs] at h
    split at h
    · rename_i r1 h1
      cases h
      match vs, us, hv, hu with
      | v :: vs, u :: us, hv, hu =>
      obtain ⟨e1, e2, e3, e4⟩ := eqCs_sound h1 vs us (by simpa using hv) (by simpa using hu) (fun i hi => by simpa using hx (i + 1) (by simpa using hi)) (fun i hi => by simpa using hy (i + 1) (by simpa using hi))
      have hx0 := hx 0 (by simp)
      have hy0 := hy 0 (by simp)
      simp only [List.getD_cons_zero] at hx0 hy0
      obtain rfl := hx0.str_inv
      obtain rfl := hy0.str_inv
      refine ⟨by simp [e1], by simp [e2], fun i k hk => ?_, ?_⟩
      · cases i with
        | zero => simp at hk; subst hk; exact ⟨rfl, rfl⟩
        | succ i => simpa using e3 i k (by simpa using hk)
      · rw [List.length_cons, List.range_succ_eq_map, List.all_cons, List.all_map]
        simp only [List.getD_cons_zero, Function.comp_def, List.getD_cons_succ, Nat.succ_eq_add_one]
        rw [show eqV (.string ⟨a.toArray⟩) (.string ⟨b.toArray⟩) = decide (a = b) by simp only [eqV, ByteArray.toList_eq]; by_cases hab : a = b <;> simp [hab]]
        exact congrArg (fun z => decide (a = b) && z) e4
    · cases h

/-! ### Numbers, texts, bools -/
theorem evalBin_sound (hT : TTok P tt) {E : Env} (hE : E.B.tt = tt) {op : BinOp} {T U : TypeId} {ox oy : Operand} {vx vy : Value} {cx cy : C} {Kv : C → R}
    (h : evalBin E op T cx cy Kv) (hx : RepC tt w S g os vx cx) (hy : RepC tt w S g os vy cy) :
    ∃ v cv, (do eqGuard op T ox oy vx vy; binOp op T vx vy : Sem Value).run P w = .ok v w ∧ RepC tt w S g os v cv ∧ Kv cv := by
  unfold evalBin at h
  split at h
  · -- numbers
    rename_i k a k' b
    obtain rfl := hx.int_inv
    obtain rfl := hy.int_inv
    cases hk : ikBeq k k' with
    | false => simp [hk] at h
    | true =>
      have hk' : k = k' := ikBeq_eq hk
      subst hk'
      simp only [hk, cond_true] at h
      have hg : (eqGuard op T ox oy (.int k a) (.int k b)).run P w = .ok () w := by
        unfold eqGuard
        cases op <;> simp
      split at h
      · have hb0 : b ≠ 0 := by have := h.1; omega
        exact ⟨_, _, by simp [hg, binOp, Op.intDiv, hb0], rep_int _ _, h.2⟩
      · have hb0 : b ≠ 0 := by have := h.1; omega
        exact ⟨_, _, by simp [hg, binOp, Op.intDiv, hb0], rep_int _ _, h.2⟩
      · rename_i op' hq hr
        have e1 : ∀ a b : Int, (a == b) = decide (a = b) := fun a b => by by_cases hab : a = b <;> simp [hab]
        cases op <;> simp [bopI] at h <;> first
          | exact absurd rfl (hq ·)
          | exact ⟨_, _, by simp [hg, binOp, Op.intArith], rep_int _ _, h⟩
          | (refine ⟨_, _, ?_, rep_bool _, h⟩; simp [hg, binOp, Op.intCmp, e1, bne])
          | skip
  · rename_i a b
    have hla := hx.d_inv.str_le
    obtain rfl := hx.str_inv
    obtain rfl := hy.str_inv
    have hg : (eqGuard op T ox oy (.string ⟨a.toArray⟩) (.string ⟨b.toArray⟩)).run P w = .ok () w := by
      unfold eqGuard
      cases op <;> simp
    split at h
    · obtain ⟨hb, h⟩ := h
      refine ⟨_, _, ?_, rep_str (a ++ b) (by simpa using hb), h⟩
      have h1 : ¬ (((⟨a.toArray⟩ : ByteArray).size + (⟨b.toArray⟩ : ByteArray).size : Nat) : Int) > IntKind.i64.max := by
        rw [ba_size, ba_size]
        simp only [IntKind.max]
        have : IntKind.signed .i64 = true := rfl
        unfold big at hb
        simp [IntKind.bits, IntKind.signed]
        omega
      simp only [Sem.run_bind, hg, Result.andThen_ok, binOp, Op.stringOp, if_neg h1, Sem.run_pure]
      rw [ba_append]
    · rename_i op' hq
      have e1 : ∀ a b : Str, (a == b) = decide (a = b) := fun a b => by by_cases hab : a = b <;> simp [hab]
      cases op <;> simp [bopS] at h <;> first
        | exact absurd rfl (hq ·)
        | (refine ⟨_, _, ?_, rep_bool _, h⟩; simp [hg, binOp, Op.stringOp, strLt_eq, e1, bne])
        | skip
  · rename_i a b
    obtain rfl := hx.bool_inv
    obtain rfl := hy.bool_inv
    have hg : (eqGuard op T ox oy (.bool a) (.bool b)).run P w = .ok () w := by
      unfold eqGuard
      cases op <;> simp
    split at h
    · rename_i ks by' heq
      obtain ⟨info, hi⟩ := hT T _ (hE ▸ heq)
      have hu := hi.uk.1
      have he : (Op.equal T (.bool a) (.bool b)).run P w = .ok (a == b) w := by
        unfold Op.equal
        show (Op.equalIn (9999 + 1) T (.bool a) (.bool b)).run P w = _
        unfold Op.equalIn
        simp [run_underlying hu]
      split at h
      · exact ⟨_, _, by simp [hg, binOp, he], rep_bool _, h⟩
      · exact ⟨_, _, by simp [hg, binOp, he], rep_bool _, h⟩
      · cases h
    · cases h
  · rename_i xs ys
    split at h
    · rename_i fs ks by' heq
      obtain ⟨hsc, h⟩ := bif_some3 h
      split at h
      · rename_i b hb
        obtain ⟨info, hi⟩ := hT T _ (hE ▸ heq)
        obtain ⟨hk, hg0⟩ := hi.eqs rfl hsc
        obtain ⟨fields, hu, _⟩ := hi.uk
        cases hx with
        | agg _ vs hl1 hr1 =>
        cases hy with
        | agg _ us hl2 hr2 =>
        obtain ⟨e1, e2, e3, e4⟩ := eqCs_sound hb vs.toList us.toList (by simpa using hl1) (by simpa using hl2) (fun i hi => by rw [List.getD_eq_getElem?_getD, Array.getElem?_toList, ← Array.getD_eq_getD_getElem?]; exact hr1 i hi) (fun i hi => by rw [List.getD_eq_getElem?_getD, Array.getElem?_toList, ← Array.getD_eq_getD_getElem?]; exact hr2 i hi)
        simp only [List.getD_eq_getElem?_getD, Array.getElem?_toList, ← Array.getD_eq_getD_getElem?] at e3 e4
        have he : (Op.equalIn 10000 T (.agg vs) (.agg us)).run P w = .ok b w := by
          rw [eqKs_struct (eqKs_sound P 7) hu hk (by omega) ⟨by simp only; omega, fun i k hk => by rw [Nat.zero_add]; exact (e3 i k hk).1⟩ ⟨by simp only; omega, fun i k hk => by rw [Nat.zero_add]; exact (e3 i k hk).2⟩, ← e4]
          simp only [eqRun, Nat.zero_add]
        have hg : (eqGuard op T ox oy (.agg vs) (.agg us)).run P w = .ok () w := run_eqGuard_agg w op T ox oy vs us hg0
        split at h
        · exact ⟨_, _, by simp only [Sem.run_bind, hg, Result.andThen_ok, run_eql_struct, he], rep_bool _, h⟩
        · exact ⟨_, _, by simp only [Sem.run_bind, hg, Result.andThen_ok, run_neq_struct, he], rep_bool _, h⟩
        · cases h
      · cases h
    · cases h
  · cases h

end Go.Proofs.EN
