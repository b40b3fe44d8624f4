/- Contracts of functions of this program, by the evaluator EN. No conditions but those that each theorem states. -/
import Derived.Test.YtekcghhacpllaaaGreatDoorLE
set_option linter.unusedVariables false
set_option linter.unusedSimpArgs false
set_option maxRecDepth 100000
set_option maxHeartbeats 8000000
namespace Go.Proofs.SL
open Go Go.Proofs Go.Proofs.EN Go.Proofs.VT
variable {T : Tabs}
/-! ### Types -/
abbrev cSch (ts : List TypeDef) : C := .agg [.d (.list 37 (dTypeDefs 40 68 ts))]
def tyOf (ts : List TypeDef) (n : Str) : TypeDef := (ts[(fnd (ts.map (·.1)) n).toNat]?).getD default
def fldC (t : TypeDef) (n : Str) : Int := fnd (t.2.map (·.1)) n
def fldOf (t : TypeDef) (n : Str) : FieldDef := (t.2[(fldC t n).toNat]?).getD default
def dirB (x : QSel) : Bool := x.dirs.all fun y => decide (y.2.1 = 2) || decide (y.2.1 = 4)
abbrev tnm : Str := [95, 95, 116, 121, 112, 101, 110, 97, 109, 101]
def leafB (f : FieldDef) (x : QSel) : Bool := decide (f.2.2.1 = tInt) == decide (x.sels = [])
/-- A selection's code; rest is the code of what stands in it, at a type. -/
def selC (ts : List TypeDef) (d : QDoc) (n : Str) (x : QSel) (rest : Str → Int) : Int :=
  if dirB x = false then 10 else
  if x.kind = 2 then (if (frag d x.name).isSome && decide ((fragD d x.name).2.2.1 = n) then 0 else 12) else
  if x.kind = 3 then (if x.name = [] ∨ x.name = n then rest n else 12) else
  if x.name = tnm then (if x.args ≠ [] then 10 else if x.sels ≠ [] then 11 else 0) else
  if fldC (tyOf ts n) x.name < 0 then 9 else
  if argsB (fldOf (tyOf ts n) x.name) x.args = false then 10 else
  if leafB (fldOf (tyOf ts n) x.name) x = false then 11 else rest (fldOf (tyOf ts n) x.name).2.2.1
mutual
def typS (ts : List TypeDef) (d : QDoc) (n : Str) : QSel → Int
  | ⟨k, a, nm, ar, di, ss⟩ => selC ts d n ⟨k, a, nm, ar, di, ss⟩ fun m => typL ts d m ss
def typL (ts : List TypeDef) (d : QDoc) (n : Str) : List QSel → Int
  | [] => 0
  | x :: r => if typS ts d n x = 0 then typL ts d n r else typS ts d n x
end
theorem typS_eq (ts : List TypeDef) (d : QDoc) (n : Str) (x : QSel) : typS ts d n x = selC ts d n x fun m => typL ts d m x.sels := by obtain ⟨k, a, nm, ar, di, ss⟩ := x; rw [typS]
theorem typL_bad {ts : List TypeDef} {d : QDoc} {n : Str} : ∀ {ss : List QSel} {i : Nat}, (∀ j, j < i → typS ts d n ((ss[j]?).getD default) = 0) → i < ss.length → typS ts d n ((ss[i]?).getD default) ≠ 0 → typL ts d n ss = typS ts d n ((ss[i]?).getD default)
  | x :: r, 0, _, _, h => by rw [typL, if_neg (by simpa using h)]; rfl
  | x :: r, i + 1, h1, h2, h3 => by
    rw [typL, if_pos (by simpa using h1 0 (by omega)), typL_bad (i := i) (fun j hj => by simpa using h1 (j + 1) (by omega)) (by simpa using h2) (by simpa using h3)]
    simp
theorem typL_ok {ts : List TypeDef} {d : QDoc} {n : Str} : ∀ {ss : List QSel}, (∀ j, j < ss.length → typS ts d n ((ss[j]?).getD default) = 0) → typL ts d n ss = 0
  | [], _ => by rw [typL]
  | x :: r, h => by rw [typL, if_pos (by simpa using h 0 (by simp)), typL_ok fun j hj => by simpa using h (j + 1) (by simpa using hj)]
/-- Each field's type is Int or is there. -/
def TypOK (ts : List TypeDef) : Prop := ∀ t ∈ ts, ∀ f ∈ t.2, f.2.2.1 = tInt ∨ 0 ≤ fnd (ts.map (·.1)) f.2.2.1
theorem TypOK.at {ts : List TypeDef} (h : TypOK ts) {n m : Str} (h1 : 0 ≤ fnd (ts.map (·.1)) n) (h2 : ¬ fldC (tyOf ts n) m < 0) : (fldOf (tyOf ts n) m).2.2.1 = tInt ∨ 0 ≤ fnd (ts.map (·.1)) (fldOf (tyOf ts n) m).2.2.1 := by
  have b1 := fnd_bound (ks := ts.map (·.1)) (n := n)
  rw [List.length_map] at b1
  have b2 := fnd_bound (ks := (tyOf ts n).2.map (·.1)) (n := m)
  rw [List.length_map] at b2
  refine h (tyOf ts n) ?_ _ ?_
  · rw [tyOf, List.getElem?_eq_getElem (by omega)]; exact List.getElem_mem _
  · rw [fldOf, fldC, List.getElem?_eq_getElem (by simp only [fldC] at h2; omega)]; exact List.getElem_mem _
theorem w222 {ts : List TypeDef} {d : QDoc} {n : Str} {x : QSel} {Kr Kp : C → List Ob → R} (ht : TypOK ts) (hn : 0 ≤ fnd (ts.map (·.1)) n)
    (ih : ∀ {m : Str} {Kr Kp : C → List Ob → R}, (x.sels = [] ∨ 0 ≤ fnd (ts.map (·.1)) m) → Kr (.d (.int .i64 (typL ts d m x.sels))) [] → Wp T Tryz.prog tt 202 [cSch ts, cDoc d, .d (.str m), .d (dSS x.sels)] [] Kr Kp)
    (h : Kr (.d (.int .i64 (typS ts d n x))) []) : Wp T Tryz.prog tt 222 [cSch ts, cDoc d, .d (.str n), cSel x] [] Kr Kp := by
  rw [typS_eq] at h
  refine go (k := 222) (own := true) (cap := .deep) Tryz.func222 (by kernel_rfl) ?_
  (conv => whnf); repeat' (first | ((first | refine bdec ?_ ?_ | refine bnot ?_ ?_ | refine bsel_intro ?_ ?_ | skip) <;> intro hc <;> (try simp (disch := omega) only [nm, nq, dArgDefs_len, dFieldDefs_len, dTypeDefs_len, dArgDefs_0, dArgDefs_1, dFieldDefs_0, dFieldDefs_1, dFieldDefs_2, dFieldDefs_3, dFieldDefs_4, dTypeDefs_0, dTypeDefs_1, Nat.reduceAdd, wrapI] at hc) <;> conv => whnf) | (refine .head _ rfl (by kernel_rfl) ?_; conv => whnf) | (refine And.intro ?_ ?_; (focus ((first | omega | decide | (simp (disch := omega) only [nm, nq, dArgDefs_len, dFieldDefs_len, dTypeDefs_len, dArgDefs_0, dArgDefs_1, dFieldDefs_0, dFieldDefs_1, dFieldDefs_2, dFieldDefs_3, dFieldDefs_4, dTypeDefs_0, dTypeDefs_1, Nat.reduceAdd, wrapI] <;> omega) | (simp [strOf, nm, nq, dArgDefs_len, dFieldDefs_len, dTypeDefs_len, dArgDefs_0, dArgDefs_1, dFieldDefs_0, dFieldDefs_1, dFieldDefs_2, dFieldDefs_3, dFieldDefs_4, dTypeDefs_0, dTypeDefs_1, Nat.reduceAdd] <;> omega) | exact Nat.le_of_ble_eq_true rfl | rfl); done)); conv => whnf) | (rw [vv]; conv => whnf) | (refine NilP.mk fun nb hnb => ?_; conv => whnf))
  refine loopOf (fun i : Nat => ⟨[(2, .d (.str n)), (4, .ref 0 0), (5, .ref 1 0), (7, .ref 2 0), (9, .d (.int .i64 (i : Int)))], [.box [.d (.list 37 (dTypeDefs 40 68 ts))], .box [.d (.list 192 (dQDefs 222 237 201 d))], .box [.d (.int .i64 x.kind), .d (.str x.alias), .d (.str x.name), .d (.list 222 (dQArgs x.args)), .d (.list 237 (dQDirs x.dirs)), .d (dSS x.sels)]]⟩) (fun i => i ≤ x.dirs.length ∧ ∀ j, j < i → (decide (((x.dirs[j]?).getD default).2.1 = 2) || decide (((x.dirs[j]?).getD default).2.1 = 4)) = true) (fun i => x.dirs.length - i) 0 rfl ⟨by omega, fun j hj => by omega⟩ ?_
  intro i I hi rec
  obtain ⟨hi1, hi2⟩ := hi
  obtain ⟨y, hy⟩ : ∃ y, (x.dirs[i]?).getD default = y := ⟨_, rfl⟩
  obtain ⟨t, htt⟩ : ∃ t, tyOf ts n = t := ⟨_, rfl⟩
  obtain ⟨f, hff⟩ : ∃ f, fldOf t x.name = f := ⟨_, rfl⟩
  have htt' : (ts[(fnd (ts.map (·.1)) n).toNat]?).getD default = t := htt
  have hff' : (t.2[(fnd (t.2.map (·.1)) x.name).toNat]?).getD default = f := hff
  have b1 := fnd_bound (ks := ts.map (·.1)) (n := n)
  rw [List.length_map] at b1
  have b2 := fnd_bound (ks := t.2.map (·.1)) (n := x.name)
  rw [List.length_map] at b2
  (conv => whnf); repeat' (first | ((first | refine bdec ?_ ?_ | refine bnot ?_ ?_ | refine bsel_intro ?_ ?_ | skip) <;> intro hc <;> (try simp (disch := omega) only [nm, nq, dArgDefs_len, dFieldDefs_len, dTypeDefs_len, dArgDefs_0, dArgDefs_1, dFieldDefs_0, dFieldDefs_1, dFieldDefs_2, dFieldDefs_3, dFieldDefs_4, dTypeDefs_0, dTypeDefs_1, Nat.reduceAdd, hy, htt', hff', wrapI] at hc) <;> conv => whnf) | (refine .head _ rfl (by kernel_rfl) ?_; conv => whnf) | (refine aheadAtB 222 (by kernel_rfl) (by kernel_rfl) ?_; conv => whnf) | (refine PAnd.mk ?_ ?_ <;> conv => whnf) | exact PTrue.mk | (refine .head _ rfl (by kernel_rfl) ?_; conv => whnf) | (refine w30 ?_; conv => whnf) | (refine w204 ?_; conv => whnf) | (refine (fun hq => wpArgs (xs' := [.agg [.d (.str t.1), .d (.list 40 (dFieldDefs 68 t.2))], .d (.str x.name)]) (by simp only [nm, nq, dArgDefs_len, dFieldDefs_len, dTypeDefs_len, dArgDefs_0, dArgDefs_1, dFieldDefs_0, dFieldDefs_1, dFieldDefs_2, dFieldDefs_3, dFieldDefs_4, dTypeDefs_0, dTypeDefs_1, Nat.reduceAdd, htt']) (w32 hq)) ?_; conv => whnf) | (refine (fun hq => wpArgs (xs' := [cFld f, .d (.list 222 (dQArgs x.args))]) (by simp only [nm, nq, dArgDefs_len, dFieldDefs_len, dTypeDefs_len, dArgDefs_0, dArgDefs_1, dFieldDefs_0, dFieldDefs_1, dFieldDefs_2, dFieldDefs_3, dFieldDefs_4, dTypeDefs_0, dTypeDefs_1, Nat.reduceAdd, htt', hff']) (w234 hq)) ?_; conv => whnf) | (refine ih (m := n) (.inr hn) ?_ <;> conv => whnf) | (refine wpArgs (xs' := [cSch ts, cDoc d, .d (.str f.2.2.1), .d (dSS x.sels)]) (by simp only [nm, nq, dArgDefs_len, dFieldDefs_len, dTypeDefs_len, dArgDefs_0, dArgDefs_1, dFieldDefs_0, dFieldDefs_1, dFieldDefs_2, dFieldDefs_3, dFieldDefs_4, dTypeDefs_0, dTypeDefs_1, Nat.reduceAdd, htt', hff']) (ih (m := f.2.2.1) ?_ ?_) <;> conv => whnf) | (apply pcall; (focus (intro _ _ hk; first | exact w30 hk | exact w204 hk | exact (fun hq => wpArgs (xs' := [.agg [.d (.str t.1), .d (.list 40 (dFieldDefs 68 t.2))], .d (.str x.name)]) (by simp only [nm, nq, dArgDefs_len, dFieldDefs_len, dTypeDefs_len, dArgDefs_0, dArgDefs_1, dFieldDefs_0, dFieldDefs_1, dFieldDefs_2, dFieldDefs_3, dFieldDefs_4, dTypeDefs_0, dTypeDefs_1, Nat.reduceAdd, htt']) (w32 hq)) hk | exact (fun hq => wpArgs (xs' := [cFld f, .d (.list 222 (dQArgs x.args))]) (by simp only [nm, nq, dArgDefs_len, dFieldDefs_len, dTypeDefs_len, dArgDefs_0, dArgDefs_1, dFieldDefs_0, dFieldDefs_1, dFieldDefs_2, dFieldDefs_3, dFieldDefs_4, dTypeDefs_0, dTypeDefs_1, Nat.reduceAdd, htt', hff']) (w234 hq)) hk | exact ih (m := n) (.inr hn) ?_ hk | exact wpArgs (xs' := [cSch ts, cDoc d, .d (.str f.2.2.1), .d (dSS x.sels)]) (by simp only [nm, nq, dArgDefs_len, dFieldDefs_len, dTypeDefs_len, dArgDefs_0, dArgDefs_1, dFieldDefs_0, dFieldDefs_1, dFieldDefs_2, dFieldDefs_3, dFieldDefs_4, dTypeDefs_0, dTypeDefs_1, Nat.reduceAdd, htt', hff']) (ih (m := f.2.2.1) ?_ ?_) hk)); conv => whnf) | (refine And.intro ?_ ?_; (focus ((first | omega | decide | (simp (disch := omega) only [nm, nq, dArgDefs_len, dFieldDefs_len, dTypeDefs_len, dArgDefs_0, dArgDefs_1, dFieldDefs_0, dFieldDefs_1, dFieldDefs_2, dFieldDefs_3, dFieldDefs_4, dTypeDefs_0, dTypeDefs_1, Nat.reduceAdd, hy, htt', hff', wrapI] <;> omega) | (simp [strOf, nm, nq, dArgDefs_len, dFieldDefs_len, dTypeDefs_len, dArgDefs_0, dArgDefs_1, dFieldDefs_0, dFieldDefs_1, dFieldDefs_2, dFieldDefs_3, dFieldDefs_4, dTypeDefs_0, dTypeDefs_1, Nat.reduceAdd, hy, htt', hff'] <;> omega) | exact Nat.le_of_ble_eq_true rfl | rfl); done)); conv => whnf) | (rw [vv]; conv => whnf) | (refine NilP.mk fun nb hnb => ?_; conv => whnf))
  · have e : dirB x = false := all_no (f := fun y : QDir => decide (y.2.1 = 2) || decide (y.2.1 = 4)) i (by omega) (by rw [hy]; simp [*])
    simpa [selC, e] using h
  · refine eqI (rec (i + 1) ⟨by omega, lt_succ_split hi2 (by rw [hy]; simp [hc])⟩ (by omega)) ?_
    rw [wrapS (by omega)]
  · refine eqI (rec (i + 1) ⟨by omega, lt_succ_split hi2 (by rw [hy]; simp [hc])⟩ (by omega)) ?_
    rw [wrapS (by omega)]
  all_goals
    have hd : dirB x = true := all_yes (f := fun y : QDir => decide (y.2.1 = 2) || decide (y.2.1 = 4)) (fun j hj => hi2 j (by omega))
    have ho := fun h => ht.at (m := x.name) hn h
    simp only [htt, hff, fldC] at ho
    simp only [selC, htt, hff, fldC, hd, leafB] at h
    clear rec hi2
  all_goals first
    | (refine krI h ?_
       clear h ho ih
       by_cases hf : fnd (t.2.map (·.1)) x.name < 0 <;> by_cases hI : f.2.2.1 = [73, 110, 116] <;> cases hs : x.sels <;> cases hA : argsB f x.args <;> cases hr : x.args <;> simp_all <;> omega)
    | (rcases ho ‹_› with e | e
       · left
         have e2 : decide (f.2.2.1 = [73, 110, 116]) = true := by rw [e]; rfl
         rw [e2] at hc
         exact List.eq_nil_of_length_eq_zero (by have := hc.symm; simp only [decide_eq_true_eq] at this; omega)
       · exact .inr e)
end Go.Proofs.SL
