/- Contracts of functions of this program, by the evaluator EN. No conditions but those that each theorem states. -/
import Derived.Test.YtekcghhacpllaaaGreatDoorLD
import Derived.Test.YtekcghhacpllaaaGreatDoorKJ
set_option linter.unusedVariables false
set_option linter.unusedSimpArgs false
set_option maxRecDepth 100000
set_option maxHeartbeats 8000000
namespace Go.Proofs.SL
open Go Go.Proofs Go.Proofs.EN Go.Proofs.VT
variable {T : Tabs}
/-! ### The operation -/
def onceI (d : QDoc) (i : Nat) : Bool := !decide (((d[i]?).getD default).1 = 3) || allN i fun k => !isFrag ((d[i]?).getD default).2.1 ((d[k]?).getD default)
def ops (d : QDoc) : List QDef := d.filter fun x => !decide (x.1 = 3)
def lastD (l : List QDef) : QDef := l.getLast?.getD noDef
def opC (d : QDoc) : QDef × Int := if allN d.length (onceI d) = false then (noDef, 19) else if (ops d).length = 0 then (noDef, 5) else if 1 < (ops d).length then (noDef, 6) else (lastD (ops d), 0)
def outS (l : List QDef) : C := if l = [] then .row 4 else .d (dSS (lastD l).2.2.2)
def outO (l : List QDef) : List Ob := if l = [] then [.row 201 .deep 0 []] else []
theorem w177 {d : QDoc} {Kr Kp : C → List Ob → R} (h : Kr (.tuple [cDef (opC d).1, .d (.int .i64 (opC d).2)]) []) : Wp T Tryz.prog tt 177 [cDoc d] [] Kr Kp := by
  refine go (k := 177) (own := false) (cap := .deep) Tryz.func177 (by kernel_rfl) ?_
  (conv => whnf); repeat' (first | ((first | refine bdec ?_ ?_ | refine bnot ?_ ?_ | refine bsel_intro ?_ ?_ | skip) <;> intro hc <;> (try simp (disch := omega) only [nm, nq, Nat.reduceAdd, wrapI] at hc) <;> conv => whnf) | (refine .head _ rfl (by kernel_rfl) ?_; conv => whnf) | (refine And.intro ?_ ?_; (focus ((first | omega | decide | (simp (disch := omega) only [nm, nq, Nat.reduceAdd, wrapI] <;> omega) | (simp [strOf, nm, nq, Nat.reduceAdd] <;> omega) | exact Nat.le_of_ble_eq_true rfl | rfl); done)); conv => whnf) | (rw [vv]; conv => whnf) | (refine NilP.mk fun nb hnb => ?_; conv => whnf))
  refine loopOf (fun i : Nat => ⟨[(1, .ref 0 0), (2, .ref 1 0), (4, .ref 2 0), (5, .d (.int .i64 ((ops (d.take i)).length : Int))), (6, .d (.int .i64 (i : Int)))], [.box [.d (.list 192 (dQDefs 222 237 201 d))], .box [.d (.int .i64 0), .d (.str []), .d (.str []), .row 3], .box [.d (.int .i64 (lastD (ops (d.take i))).1), .d (.str (lastD (ops (d.take i))).2.1), .d (.str (lastD (ops (d.take i))).2.2.1), outS (ops (d.take i))], .row 201 .deep 0 []] ++ outO (ops (d.take i))⟩) (fun i => i ≤ d.length ∧ ∀ j, j < i → onceI d j = true) (fun i => d.length - i) 0 rfl ⟨by omega, fun j hj => by omega⟩ ?_
  intro i I hi rec
  obtain ⟨hi1, hi2⟩ := hi
  obtain ⟨x, hx⟩ : ∃ x, (d[i]?).getD default = x := ⟨_, rfl⟩
  have hol : (ops (d.take i)).length ≤ i := by
    have := List.length_filter_le (fun x : QDef => !decide (x.1 = 3)) (d.take i)
    simp only [List.length_take] at this
    simp only [ops]; omega
  have hs : i < d.length → ops (d.take (i + 1)) = ops (d.take i) ++ if x.1 = 3 then [] else [x] := fun h => by
    rw [List.take_add_one, of_getD hx h]
    simp only [ops, List.filter_append, Option.toList_some, List.filter_cons, List.filter_nil]
    by_cases e : x.1 = 3 <;> simp [e]
  by_cases ho : ops (d.take i) = []
  · simp only [outS, outO, ho, if_true]
    (conv => whnf); repeat' (first | ((first | refine bdec ?_ ?_ | refine bnot ?_ ?_ | refine bsel_intro ?_ ?_ | skip) <;> intro hc <;> (try simp (disch := omega) only [nm, nq, Nat.reduceAdd, hx, wrapI] at hc) <;> conv => whnf) | (refine .head _ rfl (by kernel_rfl) ?_; conv => whnf) | (refine And.intro ?_ ?_; (focus ((first | omega | decide | (simp (disch := omega) only [nm, nq, Nat.reduceAdd, hx, wrapI] <;> omega) | (simp [strOf, nm, nq, Nat.reduceAdd, hx] <;> omega) | exact Nat.le_of_ble_eq_true rfl | rfl); done)); conv => whnf) | (rw [vv]; conv => whnf) | (refine NilP.mk fun nb hnb => ?_; conv => whnf))
    · refine eqI (rec (i + 1) ⟨by omega, lt_succ_split hi2 (by simp [onceI, hx, hc])⟩ (by omega)) ?_
      have e : ops (d.take (i + 1)) = [x] := by rw [hs (by omega), ho]; simp [hc]
      simp only [e, outS, outO, lastD]
      simp only [nm, nq, Nat.reduceAdd, hx]
      simp (disch := first | omega | (simp only [List.length_nil]; omega)) [wrapS, wrapI]
    · refine loopOf (fun k : Nat => ⟨[(1, .ref 0 0), (2, .ref 1 0), (4, .ref 2 0), (5, .d (.int .i64 0)), (6, .d (.int .i64 (i : Int))), (7, .ref 3 0), (8, .d (.int .i64 (k : Int)))], [.box [.d (.list 192 (dQDefs 222 237 201 d))], .box [.d (.int .i64 0), .d (.str []), .d (.str []), .row 4], .box [.d (.int .i64 0), .d (.str []), .d (.str []), .row 5], .box [.d (.int .i64 x.1), .d (.str x.2.1), .d (.str x.2.2.1), .d (dSS x.2.2.2)], .row 201 .deep 0 [], .row 201 .deep 0 []]⟩) (fun k => k ≤ i ∧ ∀ j, j < k → (!isFrag x.2.1 ((d[j]?).getD default)) = true) (fun k => i - k) 0 ?_ ⟨by omega, fun j hj => by omega⟩ ?_
      · simp only [nm, nq, Nat.reduceAdd, hx]
        rfl
      intro k J hk rec2
      obtain ⟨y, hy⟩ : ∃ y, (d[k]?).getD default = y := ⟨_, rfl⟩
      (conv => whnf); repeat' (first | ((first | refine bdec ?_ ?_ | refine bnot ?_ ?_ | refine bsel_intro ?_ ?_ | skip) <;> intro hc <;> (try simp (disch := omega) only [nm, nq, Nat.reduceAdd, hx, hy, wrapI] at hc) <;> conv => whnf) | (refine .head _ rfl (by kernel_rfl) ?_; conv => whnf) | (refine And.intro ?_ ?_; (focus ((first | omega | decide | (simp (disch := omega) only [nm, nq, Nat.reduceAdd, hx, hy, wrapI] <;> omega) | (simp [strOf, nm, nq, Nat.reduceAdd, hx, hy] <;> omega) | exact Nat.le_of_ble_eq_true rfl | rfl); done)); conv => whnf) | (rw [vv]; conv => whnf) | (refine NilP.mk fun nb hnb => ?_; conv => whnf))
      · have e : onceI d i = false := by
          have : allN i (fun k => !isFrag x.2.1 ((d[k]?).getD default)) = false := allN_no k (by omega) (by rw [hy]; simp_all [isFrag])
          simp [onceI, hx, this]; assumption
        have e2 : opC d = (noDef, 19) := by simp [opC, allN_no (n := d.length) i (by omega) e]
        rw [e2] at h
        exact h
      · refine eqI (rec2 (k + 1) ⟨by omega, lt_succ_split hk.2 (by rw [hy]; simp_all [isFrag])⟩ (by omega)) ?_
        rw [wrapS (by omega)]
      · refine eqI (rec2 (k + 1) ⟨by omega, lt_succ_split hk.2 (by rw [hy]; simp_all [isFrag])⟩ (by omega)) ?_
        rw [wrapS (by omega)]
      · have e1 : onceI d i = true := by
          have := allN_yes (n := i) (f := fun k => !isFrag x.2.1 ((d[k]?).getD default)) (fun j hj => hk.2 j (by omega))
          simp [onceI, hx, this]
        refine eqI (rec (i + 1) ⟨by omega, lt_succ_split hi2 e1⟩ (by omega)) ?_
        have e : ops (d.take (i + 1)) = [] := by rw [hs (by omega), ho]; simp_all
        simp only [e, outS, outO]
        rw [wrapS (by omega)]
        rfl
    · have e : opC d = (noDef, 5) := by
        have e1 := allN_yes (n := d.length) (f := onceI d) (fun j hj => hi2 j (by omega))
        rw [List.take_of_length_le (by omega)] at ho
        simp [opC, e1, ho]
      rw [e] at h
      exact h
  · simp only [outS, outO, ho, if_false]
    (conv => whnf); repeat' (first | ((first | refine bdec ?_ ?_ | refine bnot ?_ ?_ | refine bsel_intro ?_ ?_ | skip) <;> intro hc <;> (try simp (disch := omega) only [nm, nq, Nat.reduceAdd, hx, wrapI] at hc) <;> conv => whnf) | (refine .head _ rfl (by kernel_rfl) ?_; conv => whnf) | (refine And.intro ?_ ?_; (focus ((first | omega | decide | (simp (disch := omega) only [nm, nq, Nat.reduceAdd, hx, wrapI] <;> omega) | (simp [strOf, nm, nq, Nat.reduceAdd, hx] <;> omega) | exact Nat.le_of_ble_eq_true rfl | rfl); done)); conv => whnf) | (rw [vv]; conv => whnf) | (refine NilP.mk fun nb hnb => ?_; conv => whnf))
    · refine eqI (rec (i + 1) ⟨by omega, lt_succ_split hi2 (by simp [onceI, hx, hc])⟩ (by omega)) ?_
      have e : ops (d.take (i + 1)) = ops (d.take i) ++ [x] := by rw [hs (by omega)]; simp [hc]
      simp only [e, outS, outO, lastD]
      simp only [nm, nq, Nat.reduceAdd, hx]
      simp (disch := first | omega | (simp only [List.length_nil]; omega)) [wrapS, wrapI]
    · refine loopOf (fun k : Nat => ⟨[(1, .ref 0 0), (2, .ref 1 0), (4, .ref 2 0), (5, .d (.int .i64 ((ops (d.take i)).length : Int))), (6, .d (.int .i64 (i : Int))), (7, .ref 3 0), (8, .d (.int .i64 (k : Int)))], [.box [.d (.list 192 (dQDefs 222 237 201 d))], .box [.d (.int .i64 0), .d (.str []), .d (.str []), .row 4], .box [.d (.int .i64 (lastD (ops (d.take i))).1), .d (.str (lastD (ops (d.take i))).2.1), .d (.str (lastD (ops (d.take i))).2.2.1), .d (dSS (lastD (ops (d.take i))).2.2.2)], .box [.d (.int .i64 x.1), .d (.str x.2.1), .d (.str x.2.2.1), .d (dSS x.2.2.2)], .row 201 .deep 0 []]⟩) (fun k => k ≤ i ∧ ∀ j, j < k → (!isFrag x.2.1 ((d[j]?).getD default)) = true) (fun k => i - k) 0 ?_ ⟨by omega, fun j hj => by omega⟩ ?_
      · simp only [nm, nq, Nat.reduceAdd, hx]
        rfl
      intro k J hk rec2
      obtain ⟨y, hy⟩ : ∃ y, (d[k]?).getD default = y := ⟨_, rfl⟩
      (conv => whnf); repeat' (first | ((first | refine bdec ?_ ?_ | refine bnot ?_ ?_ | refine bsel_intro ?_ ?_ | skip) <;> intro hc <;> (try simp (disch := omega) only [nm, nq, Nat.reduceAdd, hx, hy, wrapI] at hc) <;> conv => whnf) | (refine .head _ rfl (by kernel_rfl) ?_; conv => whnf) | (refine And.intro ?_ ?_; (focus ((first | omega | decide | (simp (disch := omega) only [nm, nq, Nat.reduceAdd, hx, hy, wrapI] <;> omega) | (simp [strOf, nm, nq, Nat.reduceAdd, hx, hy] <;> omega) | exact Nat.le_of_ble_eq_true rfl | rfl); done)); conv => whnf) | (rw [vv]; conv => whnf) | (refine NilP.mk fun nb hnb => ?_; conv => whnf))
      · have e : onceI d i = false := by
          have : allN i (fun k => !isFrag x.2.1 ((d[k]?).getD default)) = false := allN_no k (by omega) (by rw [hy]; simp_all [isFrag])
          simp [onceI, hx, this]; assumption
        have e2 : opC d = (noDef, 19) := by simp [opC, allN_no (n := d.length) i (by omega) e]
        rw [e2] at h
        exact h
      · refine eqI (rec2 (k + 1) ⟨by omega, lt_succ_split hk.2 (by rw [hy]; simp_all [isFrag])⟩ (by omega)) ?_
        rw [wrapS (by omega)]
      · refine eqI (rec2 (k + 1) ⟨by omega, lt_succ_split hk.2 (by rw [hy]; simp_all [isFrag])⟩ (by omega)) ?_
        rw [wrapS (by omega)]
      · have e1 : onceI d i = true := by
          have := allN_yes (n := i) (f := fun k => !isFrag x.2.1 ((d[k]?).getD default)) (fun j hj => hk.2 j (by omega))
          simp [onceI, hx, this]
        refine eqI (rec (i + 1) ⟨by omega, lt_succ_split hi2 e1⟩ (by omega)) ?_
        have e : ops (d.take (i + 1)) = ops (d.take i) := by rw [hs (by omega)]; simp_all
        simp only [e, outS, outO, ho]
        rw [wrapS (by omega)]
        rfl
    all_goals
      have e1 := allN_yes (n := d.length) (f := onceI d) (fun j hj => hi2 j (by omega))
      have et : d.take i = d := List.take_of_length_le (by omega)
      simp only [et] at *
    · exact absurd (List.eq_nil_of_length_eq_zero (by omega)) ho
    · have e : opC d = (noDef, 6) := by
        have h1 : (ops d).length ≠ 0 := by omega
        have h2 : 1 < (ops d).length := by omega
        simp [opC, e1, h2, ho]
      rw [e] at h
      exact h
    · have e : opC d = (lastD (ops d), 0) := by
        have h2 : ¬ 1 < (ops d).length := by omega
        simp [opC, e1, h2, ho]
      rw [e] at h
      exact h
/-! ### Spreads -/
mutual
def sprS : QSel → List Str
  | ⟨k, _, n, _, _, ss⟩ => (if k = 2 then [n] else []) ++ spr ss
def spr : List QSel → List Str
  | [] => []
  | x :: r => sprS x ++ spr r
end
theorem spr_nil : spr [] = [] := by rw [spr]
theorem spr_cons (x : QSel) (r : List QSel) : spr (x :: r) = (if x.kind = 2 then [x.name] else []) ++ spr x.sels ++ spr r := by obtain ⟨k, a, n, ar, di, ss⟩ := x; rw [spr, sprS]
theorem spr_append : ∀ (a b : List QSel), spr (a ++ b) = spr a ++ spr b
  | [], b => by simp [spr_nil]
  | x :: r, b => by rw [List.cons_append, spr_cons, spr_cons, spr_append r b]; simp
theorem spr_succ {ss : List QSel} {i : Nat} {x : QSel} (h : ss[i]? = some x) : spr (ss.take (i + 1)) = spr (ss.take i) ++ ((if x.kind = 2 then [x.name] else []) ++ spr x.sels) := by
  rw [List.take_add_one, h, spr_append]
  simp [spr_cons, spr_nil]
theorem spr_len : ∀ (n : Nat) (ss : List QSel), qCnt ss ≤ n → (spr ss).length ≤ qCnt ss
  | _, [], _ => by simp [spr_nil]
  | 0, x :: r, h => by rw [qCnt_cons] at h; omega
  | n + 1, x :: r, h => by
    rw [qCnt_cons] at h
    have h1 := spr_len n x.sels (by omega)
    have h2 := spr_len n r (by omega)
    rw [spr_cons, qCnt_cons]
    simp only [List.length_append]
    split <;> simp <;> omega
theorem spr_len' (ss : List QSel) : (spr ss).length ≤ qCnt ss := spr_len _ ss (Nat.le_refl _)
theorem w203 : ∀ (n : Nat) {ss : List QSel} {Kr Kp : C → List Ob → R}, qCnt ss < n → qCnt ss ≤ 1000000 → (h : ∀ ver, Kr (.row 0) [.row 9 .deep ver (dStr (spr ss))]) → Wp T Tryz.prog tt 203 [.d (dSS ss)] [] Kr Kp := by
  intro n
  induction n with
  | zero =>
    intro ss Kr Kp hn hq h
    omega
  | succ n ih =>
    intro ss Kr Kp hn hq h
    refine go (k := 203) (own := true) (cap := .deep) Tryz.func203 (by kernel_rfl) ?_
    (conv => whnf); repeat' (first | ((first | refine bdec ?_ ?_ | refine bnot ?_ ?_ | refine bsel_intro ?_ ?_ | skip) <;> intro hc <;> (try simp (disch := omega) only [nm, nq, Nat.reduceAdd, wrapI] at hc) <;> conv => whnf) | (refine .head _ rfl (by kernel_rfl) ?_; conv => whnf) | (refine And.intro ?_ ?_; (focus ((first | omega | decide | (simp (disch := omega) only [nm, nq, Nat.reduceAdd, wrapI] <;> omega) | (simp [strOf, nm, nq, Nat.reduceAdd] <;> omega) | exact Nat.le_of_ble_eq_true rfl | rfl); done)); conv => whnf) | (rw [vv]; conv => whnf) | (refine NilP.mk fun nb hnb => ?_; conv => whnf))
    refine loopOf (fun i : Nat => ⟨[(0, .d (dSS ss)), (3, .row 0), (4, .d (.int .i64 (i : Int)))], [.row 9 .deep 0 (dStr (spr (ss.take i)))]⟩) (fun i => i ≤ ss.length) (fun i => ss.length - i) 0 (by simp [spr_nil, dStr]) (by omega) ?_
    intro i I hi rec
    obtain ⟨x, hx⟩ : ∃ x, (ss[i]?).getD default = x := ⟨_, rfl⟩
    have hl := spr_len' (ss.take i)
    have hl2 := qCnt_take_le (ss := ss) (i := i)
    have hs : i < ss.length → qCnt x.sels < qCnt ss ∧ (spr x.sels).length ≤ qCnt x.sels := fun h => ⟨by have := qCnt_mem (List.mem_of_getElem? (of_getD hx h)); omega, spr_len' _⟩
    (conv => whnf); repeat' (first | ((first | refine bdec ?_ ?_ | refine bnot ?_ ?_ | refine bsel_intro ?_ ?_ | skip) <;> intro hc <;> (try simp (disch := omega) only [nm, nq, Nat.reduceAdd, hx, wrapI] at hc) <;> conv => whnf) | (refine .head _ rfl (by kernel_rfl) ?_; conv => whnf) | (refine wpArgs (xs' := [.d (dSS x.sels)]) (by simp only [nm, nq, Nat.reduceAdd, hx]) (ih (ss := x.sels) (by omega) (by omega) fun ver => ?_) <;> conv => whnf) | (apply pcall; (focus (intro _ _ hk; first | exact wpArgs (xs' := [.d (dSS x.sels)]) (by simp only [nm, nq, Nat.reduceAdd, hx]) (ih (ss := x.sels) (by omega) (by omega) fun ver => ?_) hk)); conv => whnf) | (refine And.intro ?_ ?_; (focus ((first | omega | decide | (simp (disch := omega) only [nm, nq, Nat.reduceAdd, hx, wrapI] <;> omega) | (simp [strOf, nm, nq, Nat.reduceAdd, hx] <;> omega) | exact Nat.le_of_ble_eq_true rfl | rfl); done)); conv => whnf) | (rw [vv]; conv => whnf) | (refine NilP.mk fun nb hnb => ?_; conv => whnf))
    · refine eqI (rec (i + 1) (by omega) (by omega)) ?_
      rw [spr_succ (of_getD hx (by omega)), wrapS (by omega)]
      simp only [nm, nq, Nat.reduceAdd, hx]
      simp [dStr, hc]
    · refine eqI (rec (i + 1) (by omega) (by omega)) ?_
      rw [spr_succ (of_getD hx (by omega)), wrapS (by omega)]
      simp [dStr, hc]
    · rw [List.take_of_length_le (by omega)]
      exact h _
end Go.Proofs.SL
set_option linter.unusedVariables false
set_option linter.unusedSimpArgs false
set_option maxRecDepth 100000
set_option maxHeartbeats 8000000
namespace Go.Proofs.SL
open Go Go.Proofs Go.Proofs.EN Go.Proofs.VT
variable {T : Tabs}
/-! ### Arguments -/
/-- Is an argument no new one? -/
def oldA (ar : List QArg) (i : Nat) : Bool := !allN i fun j => !decide (((ar[j]?).getD default).1 = ((ar[i]?).getD default).1)
def argI (f : FieldDef) (ar : List QArg) (i : Nat) : Bool :=
  !decide (fnd (f.2.1.map (·.1)) ((ar[i]?).getD default).1 < 0) && (!decide (((ar[i]?).getD default).2.1 = 2) && (!(decide (((ar[i]?).getD default).2.1 = 3) && ((f.2.1[(fnd (f.2.1.map (·.1)) ((ar[i]?).getD default).1).toNat]?).getD default).2) && !oldA ar i))
def needI (f : FieldDef) (ar : List QArg) (j : Nat) : Bool := !((f.2.1[j]?).getD default).2 || decide (((f.2.1[j]?).getD default).1 ∈ ar.map (·.1))
def argsB (f : FieldDef) (ar : List QArg) : Bool := allN ar.length (argI f ar) && allN f.2.1.length (needI f ar)
abbrev cFld (f : FieldDef) : C := .agg [.d (.str f.1), .d (.list 68 (dArgDefs f.2.1)), .d (.str f.2.2.1), .d (.bool f.2.2.2.1), .d (.bool f.2.2.2.2)]
theorem argsB_i {f : FieldDef} {ar : List QArg} {i : Nat} (hi : i < ar.length) (h : argI f ar i = false) : argsB f ar = false := by
  simp [argsB, allN_no i hi h]
theorem argsB_n {f : FieldDef} {ar : List QArg} {i : Nat} (hi : i < f.2.1.length) (h : needI f ar i = false) : argsB f ar = false := by
  simp [argsB, allN_no i hi h]
theorem w234 {f : FieldDef} {ar : List QArg} {Kr Kp : C → List Ob → R} (h : Kr (.d (.int .i64 (if argsB f ar then 0 else 10))) []) : Wp T Tryz.prog tt 234 [cFld f, .d (.list 222 (dQArgs ar))] [] Kr Kp := by
  refine go (k := 234) (own := true) (cap := .deep) Tryz.func234 (by kernel_rfl) ?_
  (conv => whnf); repeat' (first | ((first | refine bdec ?_ ?_ | refine bnot ?_ ?_ | refine bsel_intro ?_ ?_ | skip) <;> intro hc <;> (try simp (disch := omega) only [nm, nq, dArgDefs_len, dFieldDefs_len, dTypeDefs_len, dArgDefs_0, dArgDefs_1, dFieldDefs_0, dFieldDefs_1, dFieldDefs_2, dFieldDefs_3, dFieldDefs_4, dTypeDefs_0, dTypeDefs_1, Nat.reduceAdd, wrapI] at hc) <;> conv => whnf) | (refine .head _ rfl (by kernel_rfl) ?_; conv => whnf) | (refine And.intro ?_ ?_; (focus ((first | omega | decide | (simp (disch := omega) only [nm, nq, dArgDefs_len, dFieldDefs_len, dTypeDefs_len, dArgDefs_0, dArgDefs_1, dFieldDefs_0, dFieldDefs_1, dFieldDefs_2, dFieldDefs_3, dFieldDefs_4, dTypeDefs_0, dTypeDefs_1, Nat.reduceAdd, wrapI] <;> omega) | (simp [strOf, nm, nq, dArgDefs_len, dFieldDefs_len, dTypeDefs_len, dArgDefs_0, dArgDefs_1, dFieldDefs_0, dFieldDefs_1, dFieldDefs_2, dFieldDefs_3, dFieldDefs_4, dTypeDefs_0, dTypeDefs_1, Nat.reduceAdd] <;> omega) | exact Nat.le_of_ble_eq_true rfl | rfl); done)); conv => whnf) | (rw [vv]; conv => whnf) | (refine NilP.mk fun nb hnb => ?_; conv => whnf))
  refine loopOf (fun i : Nat => ⟨[(1, .d (.list 222 (dQArgs ar))), (2, .ref 0 0), (5, .d (.int .i64 (i : Int)))], [.box [.d (.str f.1), .d (.list 68 (dArgDefs f.2.1)), .d (.str f.2.2.1), .d (.bool f.2.2.2.1), .d (.bool f.2.2.2.2)]]⟩) (fun i => i ≤ ar.length ∧ ∀ j, j < i → argI f ar j = true) (fun i => ar.length - i) 0 rfl ⟨by omega, fun j hj => by omega⟩ ?_
  intro i I hi rec
  obtain ⟨hi1, hi2⟩ := hi
  obtain ⟨x, hx⟩ : ∃ x, (ar[i]?).getD default = x := ⟨_, rfl⟩
  obtain ⟨k, hk⟩ : ∃ k, fnd (f.2.1.map (·.1)) x.1 = k := ⟨_, rfl⟩
  have hkb := fnd_bound (ks := f.2.1.map (·.1)) (n := x.1)
  rw [List.length_map, hk] at hkb
  obtain ⟨g, hg⟩ : ∃ g, (f.2.1[k.toNat]?).getD default = g := ⟨_, rfl⟩
  (conv => whnf); repeat' (first | ((first | refine bdec ?_ ?_ | refine bnot ?_ ?_ | refine bsel_intro ?_ ?_ | skip) <;> intro hc <;> (try simp (disch := omega) only [nm, nq, dArgDefs_len, dFieldDefs_len, dTypeDefs_len, dArgDefs_0, dArgDefs_1, dFieldDefs_0, dFieldDefs_1, dFieldDefs_2, dFieldDefs_3, dFieldDefs_4, dTypeDefs_0, dTypeDefs_1, Nat.reduceAdd, hx, hk, hg, wrapI] at hc) <;> conv => whnf) | (refine .head _ rfl (by kernel_rfl) ?_; conv => whnf) | (refine (fun hq => wpArgs (xs' := [cFld f, .d (.str x.1)]) (by simp only [nm, nq, dArgDefs_len, dFieldDefs_len, dTypeDefs_len, dArgDefs_0, dArgDefs_1, dFieldDefs_0, dFieldDefs_1, dFieldDefs_2, dFieldDefs_3, dFieldDefs_4, dTypeDefs_0, dTypeDefs_1, Nat.reduceAdd, hx]) (w33 (krI hq hk.symm))) ?_; conv => whnf) | (apply pcall; (focus (intro _ _ hk; first | exact (fun hq => wpArgs (xs' := [cFld f, .d (.str x.1)]) (by simp only [nm, nq, dArgDefs_len, dFieldDefs_len, dTypeDefs_len, dArgDefs_0, dArgDefs_1, dFieldDefs_0, dFieldDefs_1, dFieldDefs_2, dFieldDefs_3, dFieldDefs_4, dTypeDefs_0, dTypeDefs_1, Nat.reduceAdd, hx]) (w33 (krI hq hk.symm))) hk)); conv => whnf) | (refine And.intro ?_ ?_; (focus ((first | omega | decide | (simp (disch := omega) only [nm, nq, dArgDefs_len, dFieldDefs_len, dTypeDefs_len, dArgDefs_0, dArgDefs_1, dFieldDefs_0, dFieldDefs_1, dFieldDefs_2, dFieldDefs_3, dFieldDefs_4, dTypeDefs_0, dTypeDefs_1, Nat.reduceAdd, hx, hk, hg, wrapI] <;> omega) | (simp [strOf, nm, nq, dArgDefs_len, dFieldDefs_len, dTypeDefs_len, dArgDefs_0, dArgDefs_1, dFieldDefs_0, dFieldDefs_1, dFieldDefs_2, dFieldDefs_3, dFieldDefs_4, dTypeDefs_0, dTypeDefs_1, Nat.reduceAdd, hx, hk, hg] <;> omega) | exact Nat.le_of_ble_eq_true rfl | rfl); done)); conv => whnf) | (rw [vv]; conv => whnf) | (refine NilP.mk fun nb hnb => ?_; conv => whnf))
  case' refine_1.refine_2.refine_2.refine_1 | refine_1.refine_2.refine_2.refine_2.refine_1 | refine_1.refine_2.refine_2.refine_2.refine_2.refine_1.refine_2.refine_1 =>
    have e : argsB f ar = false := argsB_i (i := i) (by omega) (by simp [argI, hx, hk, hg, *])
    simpa [e] using h
  rotate_right
  · have ha := allN_yes (n := ar.length) (f := argI f ar) fun j hj => hi2 j (by omega)
    clear rec
    refine loopOf (fun j : Nat => ⟨[(1, .d (.list 222 (dQArgs ar))), (2, .ref 0 0), (9, .d (.int .i64 (j : Int)))], [.box [.d (.str f.1), .d (.list 68 (dArgDefs f.2.1)), .d (.str f.2.2.1), .d (.bool f.2.2.2.1), .d (.bool f.2.2.2.2)]]⟩) (fun j => j ≤ f.2.1.length ∧ ∀ k, k < j → needI f ar k = true) (fun j => f.2.1.length - j) 0 rfl ⟨by omega, fun j hj => by omega⟩ ?_
    intro j J hj rec
    obtain ⟨hj1, hj2⟩ := hj
    obtain ⟨⟨gn, gb⟩, hg2⟩ : ∃ g, (f.2.1[j]?).getD default = g := ⟨_, rfl⟩
    (conv => whnf); repeat' (first | ((first | refine bdec ?_ ?_ | refine bnot ?_ ?_ | refine bsel_intro ?_ ?_ | skip) <;> intro hc <;> (try simp (disch := omega) only [nm, nq, dArgDefs_len, dFieldDefs_len, dTypeDefs_len, dArgDefs_0, dArgDefs_1, dFieldDefs_0, dFieldDefs_1, dFieldDefs_2, dFieldDefs_3, dFieldDefs_4, dTypeDefs_0, dTypeDefs_1, Nat.reduceAdd, hg2, wrapI] at hc) <;> conv => whnf) | (refine .head _ rfl (by kernel_rfl) ?_; conv => whnf) | (refine And.intro ?_ ?_; (focus ((first | omega | decide | (simp (disch := omega) only [nm, nq, dArgDefs_len, dFieldDefs_len, dTypeDefs_len, dArgDefs_0, dArgDefs_1, dFieldDefs_0, dFieldDefs_1, dFieldDefs_2, dFieldDefs_3, dFieldDefs_4, dTypeDefs_0, dTypeDefs_1, Nat.reduceAdd, hg2, wrapI] <;> omega) | (simp [strOf, nm, nq, dArgDefs_len, dFieldDefs_len, dTypeDefs_len, dArgDefs_0, dArgDefs_1, dFieldDefs_0, dFieldDefs_1, dFieldDefs_2, dFieldDefs_3, dFieldDefs_4, dTypeDefs_0, dTypeDefs_1, Nat.reduceAdd, hg2] <;> omega) | exact Nat.le_of_ble_eq_true rfl | rfl); done)); conv => whnf) | (rw [vv]; conv => whnf) | (refine NilP.mk fun nb hnb => ?_; conv => whnf))
    · refine loopOf (fun k : Nat => ⟨[(1, .d (.list 222 (dQArgs ar))), (2, .ref 0 0), (9, .d (.int .i64 (j : Int))), (10, .d (.bool (!gb || decide (gn ∈ (ar.map (·.1)).take k)))), (11, .d (.int .i64 (k : Int)))], [.box [.d (.str f.1), .d (.list 68 (dArgDefs f.2.1)), .d (.str f.2.2.1), .d (.bool f.2.2.2.1), .d (.bool f.2.2.2.2)]]⟩) (fun k => k ≤ ar.length) (fun k => ar.length - k) 0 ?_ (by omega) ?_
      · simp only [nm, nq, dArgDefs_len, dFieldDefs_len, dTypeDefs_len, dArgDefs_0, dArgDefs_1, dFieldDefs_0, dFieldDefs_1, dFieldDefs_2, dFieldDefs_3, dFieldDefs_4, dTypeDefs_0, dTypeDefs_1, Nat.reduceAdd, hg2]
        simp
      intro k L hk rec2
      obtain ⟨y, hy⟩ : ∃ y, (ar[k]?).getD default = y := ⟨_, rfl⟩
      have hmem : k < ar.length → (gn ∈ (ar.map (·.1)).take (k + 1) ↔ gn ∈ (ar.map (·.1)).take k ∨ gn = y.1) := fun h => mem_take_succ (by rw [List.getElem?_map, of_getD hy h]; rfl)
      (conv => whnf); repeat' (first | ((first | refine bdec ?_ ?_ | refine bnot ?_ ?_ | refine bsel_intro ?_ ?_ | skip) <;> intro hc <;> (try simp (disch := omega) only [nm, nq, dArgDefs_len, dFieldDefs_len, dTypeDefs_len, dArgDefs_0, dArgDefs_1, dFieldDefs_0, dFieldDefs_1, dFieldDefs_2, dFieldDefs_3, dFieldDefs_4, dTypeDefs_0, dTypeDefs_1, Nat.reduceAdd, hg2, hy, wrapI] at hc) <;> conv => whnf) | (refine .head _ rfl (by kernel_rfl) ?_; conv => whnf) | (refine And.intro ?_ ?_; (focus ((first | omega | decide | (simp (disch := omega) only [nm, nq, dArgDefs_len, dFieldDefs_len, dTypeDefs_len, dArgDefs_0, dArgDefs_1, dFieldDefs_0, dFieldDefs_1, dFieldDefs_2, dFieldDefs_3, dFieldDefs_4, dTypeDefs_0, dTypeDefs_1, Nat.reduceAdd, hg2, hy, wrapI] <;> omega) | (simp [strOf, nm, nq, dArgDefs_len, dFieldDefs_len, dTypeDefs_len, dArgDefs_0, dArgDefs_1, dFieldDefs_0, dFieldDefs_1, dFieldDefs_2, dFieldDefs_3, dFieldDefs_4, dTypeDefs_0, dTypeDefs_1, Nat.reduceAdd, hg2, hy] <;> omega) | exact Nat.le_of_ble_eq_true rfl | rfl); done)); conv => whnf) | (rw [vv]; conv => whnf) | (refine NilP.mk fun nb hnb => ?_; conv => whnf))
      · refine eqI (rec2 (k + 1) (by omega) (by omega)) ?_
        have e : (!gb || decide (gn ∈ (ar.map (·.1)).take (k + 1))) = true := by
          have := hmem (by omega)
          rw [Bool.or_eq_true] at hc ⊢
          rcases hc with h1 | h1
          · exact .inl h1
          · right; simp only [decide_eq_true_eq] at h1 ⊢; exact this.2 (.inl h1)
        rw [e, wrapS (by omega)]
      · refine eqI (rec2 (k + 1) (by omega) (by omega)) ?_
        have e : (!gb || decide (gn ∈ (ar.map (·.1)).take (k + 1))) = decide (y.1 = gn) := by
          have e0 : decide (gn ∈ (ar.map (·.1)).take (k + 1)) = decide (gn ∈ (ar.map (·.1)).take k ∨ gn = y.1) := by rw [decide_eq_decide]; exact hmem (by omega)
          rw [e0]
          rw [Bool.or_eq_false_iff, decide_eq_false_iff_not] at hc
          rw [hc.1, Bool.false_or, decide_eq_decide]
          exact ⟨fun h => h.resolve_left hc.2 |>.symm, fun h => .inr h.symm⟩
        rw [e, wrapS (by omega)]
        simp only [nm, nq, dArgDefs_len, dFieldDefs_len, dTypeDefs_len, dArgDefs_0, dArgDefs_1, dFieldDefs_0, dFieldDefs_1, dFieldDefs_2, dFieldDefs_3, dFieldDefs_4, dTypeDefs_0, dTypeDefs_1, Nat.reduceAdd, hy, hg2]
      · rw [List.take_of_length_le (by rw [List.length_map]; omega)] at hc
        have e : argsB f ar = false := argsB_n (i := j) (by omega) (by rw [needI, hg2]; simpa only [Bool.not_eq_true'] using hc)
        simpa [e] using h
      · rw [List.take_of_length_le (by rw [List.length_map]; omega)] at hc
        refine eqI (rec (j + 1) ⟨by omega, lt_succ_split hj2 (by rw [needI, hg2]; simpa only [Bool.not_eq_false'] using hc)⟩ (by omega)) ?_
        rw [wrapS (by omega)]
    · have hn := allN_yes (n := f.2.1.length) (f := needI f ar) fun k hk => hj2 k (by omega)
      have e : argsB f ar = true := by simp [argsB, ha, hn]
      simpa [e] using h
  all_goals
    refine loopOf (fun n : Nat => ⟨[(1, .d (.list 222 (dQArgs ar))), (2, .ref 0 0), (5, .d (.int .i64 (i : Int))), (8, .d (.int .i64 (n : Int)))], [.box [.d (.str f.1), .d (.list 68 (dArgDefs f.2.1)), .d (.str f.2.2.1), .d (.bool f.2.2.2.1), .d (.bool f.2.2.2.2)]]⟩) (fun n => n ≤ i ∧ ∀ j, j < n → (!decide (((ar[j]?).getD default).1 = x.1)) = true) (fun n => i - n) 0 rfl ⟨by omega, fun j hj => by omega⟩ ?_
    intro n J hn rec2
    obtain ⟨y, hy⟩ : ∃ y, (ar[n]?).getD default = y := ⟨_, rfl⟩
    (conv => whnf); repeat' (first | ((first | refine bdec ?_ ?_ | refine bnot ?_ ?_ | refine bsel_intro ?_ ?_ | skip) <;> intro hc <;> (try simp (disch := omega) only [nm, nq, dArgDefs_len, dFieldDefs_len, dTypeDefs_len, dArgDefs_0, dArgDefs_1, dFieldDefs_0, dFieldDefs_1, dFieldDefs_2, dFieldDefs_3, dFieldDefs_4, dTypeDefs_0, dTypeDefs_1, Nat.reduceAdd, hx, hy, wrapI] at hc) <;> conv => whnf) | (refine .head _ rfl (by kernel_rfl) ?_; conv => whnf) | (refine And.intro ?_ ?_; (focus ((first | omega | decide | (simp (disch := omega) only [nm, nq, dArgDefs_len, dFieldDefs_len, dTypeDefs_len, dArgDefs_0, dArgDefs_1, dFieldDefs_0, dFieldDefs_1, dFieldDefs_2, dFieldDefs_3, dFieldDefs_4, dTypeDefs_0, dTypeDefs_1, Nat.reduceAdd, hx, hy, wrapI] <;> omega) | (simp [strOf, nm, nq, dArgDefs_len, dFieldDefs_len, dTypeDefs_len, dArgDefs_0, dArgDefs_1, dFieldDefs_0, dFieldDefs_1, dFieldDefs_2, dFieldDefs_3, dFieldDefs_4, dTypeDefs_0, dTypeDefs_1, Nat.reduceAdd, hx, hy] <;> omega) | exact Nat.le_of_ble_eq_true rfl | rfl); done)); conv => whnf) | (rw [vv]; conv => whnf) | (refine NilP.mk fun nb hnb => ?_; conv => whnf))
    · have e : argsB f ar = false := argsB_i (i := i) (by omega) (by
        have : allN i (fun j => !decide (((ar[j]?).getD default).1 = x.1)) = false := allN_no n (by omega) (by simp [hy, hc])
        simp [argI, hx, oldA, this])
      simpa [e] using h
    · refine eqI (rec2 (n + 1) ⟨by omega, lt_succ_split hn.2 (by simp [hy, hc])⟩ (by omega)) ?_
      rw [wrapS (by omega)]
    · refine eqI (rec (i + 1) ⟨by omega, lt_succ_split hi2 ?_⟩ (by omega)) ?_
      · have : allN i (fun j => !decide (((ar[j]?).getD default).1 = x.1)) = true := allN_yes fun j hj => hn.2 j (by omega)
        simp [argI, hx, hk, hg, oldA, this, *]
      · rw [wrapS (by omega)]
end Go.Proofs.SL
set_option linter.unusedVariables false
set_option linter.unusedSimpArgs false
set_option maxRecDepth 100000
set_option maxHeartbeats 8000000
namespace Go.Proofs.SL
open Go Go.Proofs Go.Proofs.EN Go.Proofs.VT
variable {T : Tabs}
end Go.Proofs.SL
set_option linter.unusedVariables false
set_option linter.unusedSimpArgs false
set_option maxRecDepth 100000
set_option maxHeartbeats 8000000
namespace Go.Proofs.SL
open Go Go.Proofs Go.Proofs.EN Go.Proofs.VT
end Go.Proofs.SL
set_option linter.unusedVariables false
set_option linter.unusedSimpArgs false
set_option maxRecDepth 100000
set_option maxHeartbeats 8000000
namespace Go.Proofs.SL
open Go Go.Proofs Go.Proofs.EN Go.Proofs.VT
/-! ### Schemas that are drawn -/
abbrev qF : List FieldDef := [([110, 111, 100, 101], [([105, 100], true)], [78, 111, 100, 101], false, false),
  ([109, 117, 115, 116], [([105, 100], true)], [78, 111, 100, 101], false, true),
  ([110, 111, 100, 101, 115], [], [78, 111, 100, 101], true, false),
  ([115, 105, 122, 101], [], [73, 110, 116], false, true)]
abbrev mF : List FieldDef := [([115, 101, 116], [([105, 100], true), ([118, 97, 108, 117, 101], true)], [78, 111, 100, 101], false, false),
  ([97, 100, 100], [([105, 100], true), ([98, 121], true)], [78, 111, 100, 101], false, false),
  ([108, 105, 110, 107], [([105, 100], true), ([116, 111], false)], [78, 111, 100, 101], false, false)]
abbrev nF : List FieldDef := [([105, 100], [], [73, 110, 116], false, true),
  ([118, 97, 108, 117, 101], [], [73, 110, 116], false, false),
  ([112, 108, 117, 115], [([98, 121], true)], [73, 110, 116], false, false),
  ([110, 101, 120, 116], [], [78, 111, 100, 101], false, false),
  ([110, 101, 101, 100], [], [78, 111, 100, 101], false, true)]
abbrev tQu : Str := [81, 117, 101, 114, 121]
abbrev tMu : Str := [77, 117, 116, 97, 116, 105, 111, 110]
abbrev tNo : Str := [78, 111, 100, 101]
def plainS : List TypeDef := [(tQu, qF), (tMu, mF), (tNo, nF)]
def bools : List Bool := [true, false]
end Go.Proofs.SL
