/- Contracts of functions of this program, by the evaluator EN; part EN3. No conditions but those that each theorem states. -/
import Derived.Test.YtekcghhacpllaaaDoorEN2
import Derived.Laws.Entries
import Derived.Laws.Strings
import Derived.Laws.CopyRow
import Derived.Laws.Append
import Derived.Laws.Tables
/- One operation: what the evaluator says is what the machine does. -/
namespace Go.Proofs.EN
open Go
set_option linter.unusedVariables false
set_option linter.unusedSimpArgs false
variable {tt : TypeId → Option TI} {P : Program} {c : Ctx} {w : World} {g : Gh} {os : List Ob} {S : Nat → Prop}

structure RepSt (tt : TypeId → Option TI) (c : Ctx) (w : World) (g : Gh) (nt : Nat) (a : Act) (s : St) : Prop where
  inv : Inv tt c w g s.objs
  dfr : a.defers = []
  len : a.tmps.size = nt
  tmp : ∀ t, RepC tt w (Now c w g s.objs.length) g s.objs (a.tmps.getD t Go.undef) (look t s.tmps)

theorem blt_lt {a b : Nat} (h : Nat.blt a b = true) : a < b := by rwa [Nat.blt_eq] at h
theorem lt_blt {a b : Nat} (h : a < b) : Nat.blt a b = true := by rwa [Nat.blt_eq]
theorem ba_eta (b : ByteArray) : (⟨b.data.toList.toArray⟩ : ByteArray) = b := by cases b; simp

theorem rep_ofV (v : Value) : RepC tt w S g os v (ofV v) := by
  unfold ofV
  split
  · exact .d _ _ (.bool _)
  · exact .d _ _ (.int _ _)
  · rename_i s
    cases hb : Nat.ble s.data.toList.length 65536 with
    | false => exact .undef _
    | true =>
      have hb' : s.data.toList.length ≤ 65536 := Nat.le_of_ble_eq_true hb
      have := Rep.str (tt := tt) (w := w) (S := S) s.data.toList (by unfold big; omega)
      rw [ba_eta] at this
      exact .d _ _ this
  · exact .cap0 none
  · exact .d _ _ .nilI
  · exact .nilF
  · exact .undef _

theorem RepSt.ev {nt : Nat} {a : Act} {s : St} (h : RepSt tt c w g nt a s) (x : Operand) : RepC tt w (Now c w g s.objs.length) g s.objs (a.eval x) (s.ev x) := by
  cases x with
  | tmp t => exact h.tmp t
  | const v => exact rep_ofV v
  | global _ => exact .undef _
  | func f => exact .func f [] #[] rfl (fun i hi => by simp at hi)

theorem RepSt.put {nt : Nat} {a : Act} {s : St} (h : RepSt tt c w g nt a s) (dst : Option Tmp) {v : Value} {x : C} (hx : RepC tt w (Now c w g s.objs.length) g s.objs v x) : RepSt tt c w g nt (a.put dst v) (s.put nt dst x) := by
  cases dst with
  | none => exact h
  | some t =>
    simp only [Act.put, St.put]
    cases ht : Nat.blt t nt with
    | false =>
      have : ¬ t < nt := fun h => by rw [lt_blt h] at ht; cases ht
      refine ⟨h.inv, h.dfr, by simpa using h.len, fun i => ?_⟩
      rw [Array.setIfInBounds_eq_of_size_le (by rw [h.len]; exact Nat.le_of_not_lt this)]
      exact h.tmp i
    | true =>
      have ht' : t < nt := blt_lt ht
      refine ⟨h.inv, h.dfr, by simpa using h.len, fun i => ?_⟩
      simp only [cond_true, look_cons]
      cases hti : Nat.beq t i with
      | true =>
        have := Nat.eq_of_beq_eq_true hti
        subst this
        have h1 : t < a.tmps.size := by rw [h.len]; exact ht'
        simp [Array.getD, h1]
        exact hx
      | false =>
        have hne : t ≠ i := fun e => by rw [e, show Nat.beq i i = true from Nat.beq_refl i] at hti; cases hti
        simp only [cond_false, Array.getD_eq_getD_getElem?, Array.getElem?_setIfInBounds_ne hne]
        have := h.tmp i
        simpa [Array.getD_eq_getD_getElem?] using this

/-! ### What is written out -/
theorem sqNat_eq {A : Type} : ∀ (n : Nat) (K : Nat → A), sqNat n K = K n
  | 0, _ => rfl
  | n + 1, K => by
    show sqNat n (fun n => K (n + 1)) = _
    rw [sqNat_eq n]
theorem C.sq0_eq {A : Type} (c : C) (K : C → A) : c.sq0 K = K c := by cases c <;> first | rfl | exact sqNat_eq _ _
theorem sqL0_eq {A : Type} : ∀ (cs : List C) (K : List C → A), sqL0 cs K = K cs
  | [], _ => rfl
  | c :: r, K => by
    show c.sq0 (fun c => sqL0 r fun r => K (c :: r)) = _
    rw [C.sq0_eq, sqL0_eq]
theorem C.sq1_eq {A : Type} (c : C) (K : C → A) : c.sq1 K = K c := by cases c <;> first | rfl | exact sqL0_eq _ _ | exact sqNat_eq _ _
theorem sqL1_eq {A : Type} : ∀ (cs : List C) (K : List C → A), sqL1 cs K = K cs
  | [], _ => rfl
  | c :: r, K => by
    show c.sq1 (fun c => sqL1 r fun r => K (c :: r)) = _
    rw [C.sq1_eq, sqL1_eq]
theorem C.sq_eq {A : Type} (c : C) (K : C → A) : c.sq K = K c := by cases c <;> first | rfl | exact sqL1_eq _ _ | exact sqNat_eq _ _
theorem sqL_eq {A : Type} : ∀ (cs : List C) (K : List C → A), sqL cs K = K cs
  | [], _ => rfl
  | c :: r, K => by
    show c.sq (fun c => sqL r fun r => K (c :: r)) = _
    rw [C.sq_eq, sqL_eq]
theorem Md.sq_eq {A : Type} (m : Md) (K : Md → A) : m.sq K = K m := by cases m <;> rfl
theorem Ob.sq_eq {A : Type} (o : Ob) (K : Ob → A) : o.sq K = K o := by
  cases o <;> simp [Ob.sq, sqL_eq, Md.sq_eq]
theorem sqO_eq {A : Type} : ∀ (os : List Ob) (K : List Ob → A), sqO os K = K os
  | [], _ => rfl
  | o :: r, K => by
    show o.sq (fun o => sqO r fun r => K (o :: r)) = _
    rw [Ob.sq_eq, sqO_eq]
theorem sqT_eq {A : Type} : ∀ (ts : List (Nat × C)) (K : List (Nat × C) → A), sqT ts K = K ts
  | [], _ => rfl
  | (t, c) :: r, K => by
    show c.sq (fun c => sqT r fun r => K ((t, c) :: r)) = _
    rw [C.sq_eq, sqT_eq]
theorem St.sq_eq {A : Type} (s : St) (K : St → A) : s.sq K = K s := by
  cases s; simp [St.sq, sqT_eq, sqO_eq]
theorem putK_eq {A : Type} (nt : Nat) (s : St) (dst : Option Tmp) (c : C) (K : St → A) : s.putK nt dst c K = K (s.put nt dst c) := by
  cases s
  cases dst with
  | none => simp [St.putK, St.put, sqO_eq]
  | some t =>
    simp only [St.putK, St.put]
    cases Nat.blt t nt <;> simp [sqO_eq, C.sq_eq]
theorem sqN_eq {A : Type} : ∀ (ns : List Nat) (K : List Nat → A), sqN ns K = K ns
  | [], _ => rfl
  | n :: r, K => by
    show sqNat n (fun n => sqN r (fun r => K (n :: r))) = _
    rw [sqNat_eq, sqN_eq]
theorem bsel_cases {b : Bool} {x y : R} (h : bsel b x y) : (b = true ∧ x) ∨ (b = false ∧ y) := by
  cases b
  · exact .inr ⟨rfl, h⟩
  · exact .inl ⟨rfl, h⟩
theorem bsel_intro {b : Bool} {x y : R} (h1 : b = true → x) (h2 : b = false → y) : bsel b x y := by
  cases b
  · exact h2 rfl
  · exact h1 rfl
theorem ikBeq_eq : ∀ {a b : IntKind}, ikBeq a b = true → a = b := by
  intro a b h; cases a <;> cases b <;> first | rfl | cases h

/-! ### Inversions -/
theorem RepC.d_inv {v : Value} {x : D} (h : RepC tt w S g os v (.d x)) : Rep tt w S v x := by cases h; assumption
theorem Rep.int_inv {v : Value} {k : IntKind} {n : Int} (h : Rep tt w S v (.int k n)) : v = .int k n := by cases h; rfl
theorem Rep.bool_inv {v : Value} {b : Bool} (h : Rep tt w S v (.bool b)) : v = .bool b := by cases h; rfl
theorem Rep.str_inv {v : Value} {l : Str} (h : Rep tt w S v (.str l)) : v = .string ⟨l.toArray⟩ := by cases h; rfl
theorem Rep.str_le {v : Value} {l : Str} (h : Rep tt w S v (.str l)) : l.length ≤ big := by cases h; assumption
theorem Rep.list_le {v : Value} {T : TypeId} {xs : List (List D)} (h : Rep tt w S v (.list T xs)) : xs.length ≤ big := by
  cases h with
  | nil => simp
  | list => assumption
theorem RepC.int_inv {v : Value} {k : IntKind} {n : Int} (h : RepC tt w S g os v (.d (.int k n))) : v = .int k n := h.d_inv.int_inv
theorem RepC.bool_inv {v : Value} {b : Bool} (h : RepC tt w S g os v (.d (.bool b))) : v = .bool b := h.d_inv.bool_inv
theorem RepC.str_inv {v : Value} {l : Str} (h : RepC tt w S g os v (.d (.str l))) : v = .string ⟨l.toArray⟩ := h.d_inv.str_inv

theorem rep_int (k : IntKind) (n : Int) : RepC tt w S g os (.int k n) (.d (.int k n)) := .d _ _ (.int _ _)
theorem rep_bool (b : Bool) : RepC tt w S g os (.bool b) (.d (.bool b)) := .d _ _ (.bool _)
theorem rep_str (l : Str) (h : l.length ≤ big) : RepC tt w S g os (.string ⟨l.toArray⟩) (.d (.str l)) := .d _ _ (.str _ h)

theorem ba_append (a b : Str) : (⟨a.toArray⟩ : ByteArray) ++ ⟨b.toArray⟩ = ⟨(a ++ b).toArray⟩ := by
  apply ByteArray.ext
  simp [ByteArray.data_append]
theorem ba_size (a : Str) : (⟨a.toArray⟩ : ByteArray).size = a.length := by simp [ByteArray.size]
theorem strLt_eq : ∀ a b : Str, strLt a b = Op.bytesLess a b
  | _, [] => by simp [strLt, Op.bytesLess]
  | [], _ :: _ => by simp [strLt, Op.bytesLess]
  | a :: x, b :: y => by simp [strLt, Op.bytesLess, strLt_eq x y]

/-! ### Numbers, texts, bools -/
theorem evalBin_sound (hT : TTok P tt) {E : Env} (hE : E.B.tt = tt) {op : BinOp} {T U : TypeId} {ox oy : Operand} {vx vy : Value} {cx cy : C} {Kv : C → R}
    (h : evalBin E op T cx cy Kv) (hx : RepC tt w S g os vx cx) (hy : RepC tt w S g os vy cy) :
    ∃ v cv, (do eqGuard op T ox oy vx vy; binOp op T vx vy : Sem Value).run P w = .ok v w ∧ RepC tt w S g os v cv ∧ Kv cv := by
  unfold evalBin at h
  split at h
  · -- numbers
    rename_i k a k' b
    obtain rfl := hx.int_inv
    obtain rfl := hy.int_inv
    cases hk : ikBeq k k' with
    | false => simp [hk] at h
    | true =>
      have hk' : k = k' := ikBeq_eq hk
      subst hk'
      simp only [hk, cond_true] at h
      have hg : (eqGuard op T ox oy (.int k a) (.int k b)).run P w = .ok () w := by
        unfold eqGuard
        cases op <;> simp
      split at h
      · have hb0 : b ≠ 0 := by have := h.1; omega
        exact ⟨_, _, by simp [hg, binOp, Op.intDiv, hb0], rep_int _ _, h.2⟩
      · have hb0 : b ≠ 0 := by have := h.1; omega
        exact ⟨_, _, by simp [hg, binOp, Op.intDiv, hb0], rep_int _ _, h.2⟩
      · rename_i op' hq hr
        have e1 : ∀ a b : Int, (a == b) = decide (a = b) := fun a b => by by_cases hab : a = b <;> simp [hab]
        cases op <;> simp [bopI] at h <;> first
          | exact absurd rfl (hq ·)
          | exact ⟨_, _, by simp [hg, binOp, Op.intArith], rep_int _ _, h⟩
          | (refine ⟨_, _, ?_, rep_bool _, h⟩; simp [hg, binOp, Op.intCmp, e1, bne])
          | skip
  · rename_i a b
    have hla := hx.d_inv.str_le
    obtain rfl := hx.str_inv
    obtain rfl := hy.str_inv
    have hg : (eqGuard op T ox oy (.string ⟨a.toArray⟩) (.string ⟨b.toArray⟩)).run P w = .ok () w := by
      unfold eqGuard
      cases op <;> simp
    split at h
    · obtain ⟨hb, h⟩ := h
      refine ⟨_, _, ?_, rep_str (a ++ b) (by simpa using hb), h⟩
      have h1 : ¬ (((⟨a.toArray⟩ : ByteArray).size + (⟨b.toArray⟩ : ByteArray).size : Nat) : Int) > IntKind.i64.max := by
        rw [ba_size, ba_size]
        simp only [IntKind.max]
        have : IntKind.signed .i64 = true := rfl
        unfold big at hb
        simp [IntKind.bits, IntKind.signed]
        omega
      simp only [Sem.run_bind, hg, Result.andThen_ok, binOp, Op.stringOp, if_neg h1, Sem.run_pure]
      rw [ba_append]
    · rename_i op' hq
      have e1 : ∀ a b : Str, (a == b) = decide (a = b) := fun a b => by by_cases hab : a = b <;> simp [hab]
      cases op <;> simp [bopS] at h <;> first
        | exact absurd rfl (hq ·)
        | (refine ⟨_, _, ?_, rep_bool _, h⟩; simp [hg, binOp, Op.stringOp, strLt_eq, e1, bne])
        | skip
  · rename_i a b
    obtain rfl := hx.bool_inv
    obtain rfl := hy.bool_inv
    have hg : (eqGuard op T ox oy (.bool a) (.bool b)).run P w = .ok () w := by
      unfold eqGuard
      cases op <;> simp
    split at h
    · rename_i ks by' heq
      obtain ⟨info, hi⟩ := hT T _ (hE ▸ heq)
      have hu := hi.uk.1
      have he : (Op.equal T (.bool a) (.bool b)).run P w = .ok (a == b) w := by
        unfold Op.equal
        show (Op.equalIn (9999 + 1) T (.bool a) (.bool b)).run P w = _
        unfold Op.equalIn
        simp [run_underlying hu]
      split at h
      · exact ⟨_, _, by simp [hg, binOp, he], rep_bool _, h⟩
      · exact ⟨_, _, by simp [hg, binOp, he], rep_bool _, h⟩
      · cases h
    · cases h
  · cases h

end Go.Proofs.EN
