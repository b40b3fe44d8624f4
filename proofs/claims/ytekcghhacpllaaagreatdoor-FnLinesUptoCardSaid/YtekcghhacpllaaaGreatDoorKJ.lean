/- Contracts of functions of this program, by the evaluator EN. No conditions but those that each theorem states. -/
import Derived.Test.YtekcghhacpllaaaGreatDoorEHd
import Derived.Test.YtekcghhacpllaaaGreatDoorShelf
import Derived.Lib.AppendIntMem
import Derived.Test.YtekcghhacpllaaaGreatDoorKC
set_option linter.unusedVariables false
set_option linter.unusedSimpArgs false
set_option maxRecDepth 100000
set_option maxHeartbeats 8000000
namespace Go.Proofs.SL
open Go Go.Proofs Go.Proofs.EN Go.Proofs.VT Go.RowKit
variable {T : Tabs}
theorem rep_list_inv {w : World} {S : Nat → Prop} {v : Value} {e : TypeId} {xs : List (List D)} (h : Rep tt w S v (.list e xs)) :
    (xs = [] ∧ ∃ a cap, v = .slice a 0 cap) ∨ ∃ (ti : TI) (b off cap : Nat) (vs : Nat → Nat → Value), tt e = some ti ∧ v = .slice (some ⟨b, off, none⟩) xs.length cap ∧ xs.length ≤ big ∧ S b ∧ xs.length ≤ cap ∧ 0 < xs.length ∧
      (∀ i j, i < xs.length → j < ti.cells.length → w.cell? ⟨b, off + (i * ti.cells.length + j), none⟩ = some (vs i j)) ∧ (∀ i j, i < xs.length → j < ti.cells.length → Rep tt w S (vs i j) ((xs.getD i []).getD j .z)) := by
  cases h with
  | nil _ a cap => exact .inl ⟨rfl, a, cap, rfl⟩
  | list _ ti _ a cap b off vs ht hd hk hcap hb hfit ha hc hr =>
    rcases Nat.eq_zero_or_pos xs.length with h0 | h0
    · obtain rfl := List.length_eq_zero_iff.1 h0
      exact .inl ⟨rfl, a, cap, rfl⟩
    · obtain ⟨rfl, hS⟩ := ha h0
      exact .inr ⟨ti, b, off, cap, vs, ht, rfl, hb, hS, hcap, h0, hc, hr⟩
theorem kept_below {w w' : World} (h : Go.RowKit.Below w.heap.size w w') : Kept (fun _ => False) w w' := ⟨h.os, h.tape, h.output, h.size, fun b hb _ => h.block b hb⟩
theorem strs_back (ws : List Str) : ((ws.map fun y => (⟨y.toArray⟩ : ByteArray)).map (·.data.toList)) = ws := by
  induction ws with
  | nil => rfl
  | cons w ws ih => simp only [List.map_cons, ih]
theorem w48 {ws : List Str} {s : Str} {Kr Kp : C → List Ob → R} (hb : (Lib.join ws s).length ≤ 4294967296) (h : Kr (.d (.str (Lib.join ws s))) []) : Wp T Tryz.prog tt 48 [.d (.list 9 (dStr ws)), .d (.str s)] [] Kr Kp := by
  refine Wp.ofPure (enters_of Tryz.func48 (by kernel_rfl) rfl) (fun i hi => ?_) rfl (fun w S vs hS hT hl hv => ?_) h
  · match i, hi with
    | 0, _ => rfl
    | 1, _ => rfl
  · match vs, hl with
    | [v0, v1], _ =>
      have h0 : Rep tt w S v0 (.list 9 (dStr ws)) := by have := hv 0 (by simp); cases this with | d _ _ h => exact h
      have h1 : v1 = .string ⟨s.toArray⟩ := by have := hv 1 (by simp); cases this with | d _ _ h => cases h; rfl
      subst h1
      rcases rep_list_inv h0 with ⟨hz, a, cap, rfl⟩ | ⟨ti, b, off, cap, us, ht, rfl, hbg, hSb, hcp, hz, hc, hrr⟩
      · obtain rfl : ws = [] := by simpa [dStr] using hz
        refine (Tryz.strings_Join_none a cap ⟨s.toArray⟩ w).mono fun e w' ⟨he, hw⟩ => ⟨_, he, ?_, ?_⟩
        · subst hw; exact Kept.refl _ _
        · exact .d _ _ (.str [] (by simp [big]))
      · obtain rfl : (⟨.str, [.str], 16⟩ : TI) = ti := Option.some.inj ((show tt 9 = some _ by rfl).symm.trans ht)
        have hbc : b < w.heap.size := hS b hSb
        have hbl : (ws.map fun y => (⟨y.toArray⟩ : ByteArray)).length = (dStr ws).length := by simp
        have key := Tryz.strings_Join b off cap (ws.map fun y => ⟨y.toArray⟩) ⟨s.toArray⟩ w (fun j y hy => by
          have hj : j < ws.length := by
            have := (List.getElem?_eq_some_iff.1 hy).1
            simpa using this
          have e0 := hc j 0 (by simpa using hj) (by simp)
          have r0 := hrr j 0 (by simpa using hj) (by simp)
          have g0 : ((dStr ws).getD j []).getD 0 .z = .str ws[j] := by simp [dStr, hj]
          rw [g0] at r0
          generalize us j 0 = v at r0 e0
          cases r0 with
          | str _ _ =>
            rw [List.getElem?_map, List.getElem?_eq_getElem hj] at hy
            simp only [Option.map_some, Option.some.injEq] at hy
            rw [← hy]
            simpa using e0) hbc (by rw [hbl]; simp only [big] at hbg; omega) (by rw [hbl]; exact hcp) (by rw [strs_back]; show (Lib.join ws s).length ≤ _; omega)
        rw [hbl] at key
        refine key.mono fun e w' ⟨he, hw⟩ => ⟨_, he, kept_below hw, ?_⟩
        rw [strs_back]
        exact .d _ _ (.str _ (by simpa [big] using hb))
end Go.Proofs.SL
set_option linter.unusedVariables false
set_option linter.unusedSimpArgs false
set_option maxRecDepth 100000
set_option maxHeartbeats 8000000
namespace Go.Proofs.SL
open Go Go.Proofs Go.Proofs.EN Go.Proofs.VT
variable {T : Tabs}
/-! ### What a field's type is called -/
theorem w50 {b : Bool} {Kr Kp : C → List Ob → R} (h : Kr (.d (.int .i64 (if b then 1 else 0))) []) : Wp T Tryz.prog tt 50 [.d (.bool b)] [] Kr Kp := by
  refine go (k := 50) (own := true) (cap := .deep) Tryz.func50 (by kernel_rfl) ?_
  (conv => whnf); repeat' (first | ((first | refine bdec ?_ ?_ | refine bnot ?_ ?_ | refine bsel_intro ?_ ?_ | skip) <;> intro hc <;> (try simp (disch := omega) only [nm, dArgDefs_len, dFieldDefs_len, dTypeDefs_len, dSchemas_len, dArgDefs_0, dArgDefs_1, dFieldDefs_0, dFieldDefs_1, dFieldDefs_2, dFieldDefs_3, dFieldDefs_4, dTypeDefs_0, dTypeDefs_1, dSchemas_0, Nat.reduceAdd, wrapI] at hc) <;> conv => whnf) | (refine .head _ rfl (by kernel_rfl) ?_; conv => whnf) | (refine And.intro ?_ ?_; (focus ((first | omega | decide | (simp (disch := omega) only [nm, dArgDefs_len, dFieldDefs_len, dTypeDefs_len, dSchemas_len, dArgDefs_0, dArgDefs_1, dFieldDefs_0, dFieldDefs_1, dFieldDefs_2, dFieldDefs_3, dFieldDefs_4, dTypeDefs_0, dTypeDefs_1, dSchemas_0, Nat.reduceAdd, wrapI] <;> omega) | (simp [strOf, nm, dArgDefs_len, dFieldDefs_len, dTypeDefs_len, dSchemas_len, dArgDefs_0, dArgDefs_1, dFieldDefs_0, dFieldDefs_1, dFieldDefs_2, dFieldDefs_3, dFieldDefs_4, dTypeDefs_0, dTypeDefs_1, dSchemas_0, Nat.reduceAdd] <;> omega) | exact Nat.le_of_ble_eq_true rfl | rfl); done)); conv => whnf) | (rw [vv]; conv => whnf) | (refine NilP.mk fun nb hnb => ?_; conv => whnf))
  all_goals (refine krI h ?_; simp_all)
abbrev Tok := Int × Int × Str
def dTok (x : Tok) : List D := [.int .i64 x.1, .int .i64 x.2.1, .str x.2.2]
def dToks (xs : List Tok) : List (List D) := xs.map dTok
@[simp] theorem dToks_len (xs : List Tok) : (dToks xs).length = xs.length := by simp [dToks]
theorem dToks_0 (xs : List Tok) (i : Nat) : getI ((((dToks xs)[i]?).getD [])[0]?.getD .z) = ((xs[i]?).getD default).1 := by
  rw [dToks, List.getElem?_map]; cases xs[i]? <;> rfl
theorem dToks_1 (xs : List Tok) (i : Nat) : getI ((((dToks xs)[i]?).getD [])[1]?.getD .z) = ((xs[i]?).getD default).2.1 := by
  rw [dToks, List.getElem?_map]; cases xs[i]? <;> rfl
theorem dToks_2 (xs : List Tok) (i : Nat) : getS ((((dToks xs)[i]?).getD [])[2]?.getD .z) = ((xs[i]?).getD default).2.2 := by
  rw [dToks, List.getElem?_map]; cases xs[i]? <;> rfl
end Go.Proofs.SL
set_option linter.unusedVariables false
set_option linter.unusedSimpArgs false
set_option maxRecDepth 100000
set_option maxHeartbeats 8000000
namespace Go.Proofs.SL
open Go Go.Proofs Go.Proofs.EN Go.Proofs.VT
variable {T : Tabs}
theorem of_getD {α : Type} [Inhabited α] {xs : List α} {i : Nat} {x : α} (h : (xs[i]?).getD default = x) (hi : i < xs.length) : xs[i]? = some x := by rw [← h]; simp [hi]
theorem getS_str (s : Str) : getS (.str s) = s := rfl
end Go.Proofs.SL
set_option linter.unusedVariables false
set_option linter.unusedSimpArgs false
set_option maxRecDepth 100000
set_option maxHeartbeats 8000000
namespace Go.Proofs.SL
open Go Go.Proofs Go.Proofs.EN Go.Proofs.VT
variable {T : Tabs}
/-! ### What is right by itself -/
theorem all_no {α : Type} [Inhabited α] {f : α → Bool} {xs : List α} (i : Nat) (hi : i < xs.length) (h : f ((xs[i]?).getD default) = false) : xs.all f = false := by
  rw [List.all_eq_false]
  refine ⟨xs[i], List.getElem_mem hi, ?_⟩
  simp [hi] at h; simp [h]
theorem all_yes {α : Type} [Inhabited α] {f : α → Bool} {xs : List α} (h : ∀ j, j < xs.length → f ((xs[j]?).getD default) = true) : xs.all f = true := by
  rw [List.all_eq_true]
  intro x hx
  obtain ⟨j, hj, rfl⟩ := List.getElem_of_mem hx
  have := h j hj; simpa [hj] using this
def optB (t : Str) : Bool := decide (t = []) || nameB t
abbrev tOn : Str := [111, 110]
def valB (v : QVal) : Bool := if v.1 = 1 then inB v.2.1 (-2147483648) 2147483647 && decide (v.2.2 = []) else if v.1 = 2 then inB v.2.1 0 1 && decide (v.2.2 = []) else if v.1 = 3 then decide (v.2.1 = 0) && decide (v.2.2 = []) else if v.1 = 4 then decide (v.2.1 = 0) && nameB v.2.2 else false
def argOK (a : QArg) : Bool := nameB a.1 && valB a.2
def dirOK (d : QDir) : Bool := valB d.2
def kindB (x : QSel) : Bool := if x.kind = 1 then nameB x.name && optB x.alias
  else if x.kind = 2 then nameB x.name && (!decide (x.name = tOn) && (decide (x.alias = []) && (decide ((x.args.length : Int) = 0) && decide ((x.sels.length : Int) = 0))))
  else if x.kind = 3 then optB x.name && (decide (x.alias = []) && (decide ((x.args.length : Int) = 0) && decide (0 < (x.sels.length : Int))))
  else false
def selB (x : QSel) : Bool := x.dirs.all dirOK && (x.args.all argOK && (decide ((x.dirs.length : Int) ≤ 4) && (decide ((x.args.length : Int) ≤ 4) && kindB x)))
theorem w231 {k n : Int} {t : Str} {Kr Kp : C → List Ob → R} (h : Kr (.d (.bool (valB (k, n, t)))) []) : Wp T Tryz.prog tt 231 [.agg [.d (.int .i64 k), .d (.int .i64 n), .d (.str t)]] [] Kr Kp := by
  refine go (k := 231) (own := true) (cap := .deep) Tryz.func231 (by kernel_rfl) ?_
  (conv => whnf); repeat' (first | ((first | refine bdec ?_ ?_ | refine bnot ?_ ?_ | refine bsel_intro ?_ ?_ | skip) <;> intro hc <;> (try simp (disch := omega) only [nm, nq, Nat.reduceAdd, wrapI] at hc) <;> conv => whnf) | (refine .head _ rfl (by kernel_rfl) ?_; conv => whnf) | (refine w133 ?_; conv => whnf) | (refine w29 ?_; conv => whnf) | (refine w31 ?_; conv => whnf) | (apply pcall; (focus (intro _ _ hk; first | exact w133 hk | exact w29 hk | exact w31 hk)); conv => whnf) | (refine And.intro ?_ ?_; (focus ((first | omega | decide | (simp (disch := omega) only [nm, nq, Nat.reduceAdd, wrapI] <;> omega) | (simp [strOf, nm, nq, Nat.reduceAdd] <;> omega) | exact Nat.le_of_ble_eq_true rfl | rfl); done)); conv => whnf) | (rw [vv]; conv => whnf) | (refine NilP.mk fun nb hnb => ?_; conv => whnf))
  all_goals (refine krB h ?_; simp [valB, inB, *])
theorem w238 {t : Str} {Kr Kp : C → List Ob → R} (h : Kr (.d (.bool (decide (t = [116, 114, 117, 101]) || (decide (t = [102, 97, 108, 115, 101]) || decide (t = [110, 117, 108, 108]))))) []) : Wp T Tryz.prog tt 238 [.d (.str t)] [] Kr Kp := by
  refine go (k := 238) (own := true) (cap := .deep) Tryz.func238 (by kernel_rfl) ?_
  (conv => whnf); repeat' (first | ((first | refine bdec ?_ ?_ | refine bnot ?_ ?_ | refine bsel_intro ?_ ?_ | skip) <;> intro hc <;> (try simp (disch := omega) only [nm, nq, Nat.reduceAdd, wrapI] at hc) <;> conv => whnf) | (refine .head _ rfl (by kernel_rfl) ?_; conv => whnf) | (refine And.intro ?_ ?_; (focus ((first | omega | decide | (simp (disch := omega) only [nm, nq, Nat.reduceAdd, wrapI] <;> omega) | (simp [strOf, nm, nq, Nat.reduceAdd] <;> omega) | exact Nat.le_of_ble_eq_true rfl | rfl); done)); conv => whnf) | (rw [vv]; conv => whnf) | (refine NilP.mk fun nb hnb => ?_; conv => whnf))
  all_goals (refine krB h ?_; simp_all)
theorem selB_dir {x : QSel} (i : Nat) (hi : i < x.dirs.length) (h : valB ((x.dirs[i]?).getD default).2 = false) : selB x = false := by
  simp [selB, all_no (f := dirOK) i hi h]
theorem selB_arg {x : QSel} (i : Nat) (hi : i < x.args.length) (h : argOK ((x.args[i]?).getD default) = false) : selB x = false := by
  simp [selB, all_no (f := argOK) i hi h]
theorem selB_all {x : QSel} (hd : ∀ j, j < x.dirs.length → valB ((x.dirs[j]?).getD default).2 = true) (ha : ∀ j, j < x.args.length → argOK ((x.args[j]?).getD default) = true) : selB x = (decide ((x.dirs.length : Int) ≤ 4) && (decide ((x.args.length : Int) ≤ 4) && kindB x)) := by
  simp [selB, all_yes (f := argOK) ha, all_yes (f := dirOK) hd]
theorem w214 {k : Int} {al n : Str} {ar : List QArg} {di : List QDir} {ss : List QSel} {Kr Kp : C → List Ob → R} (h : Kr (.d (.bool (selB ⟨k, al, n, ar, di, ss⟩))) []) : Wp T Tryz.prog tt 214 [.agg [.d (.int .i64 k), .d (.str al), .d (.str n), .d (.list 222 (dQArgs ar)), .d (.list 237 (dQDirs di)), .d (.list 201 (dQSels 222 237 201 ss))]] [] Kr Kp := by
  refine go (k := 214) (own := true) (cap := .deep) Tryz.func214 (by kernel_rfl) ?_
  (conv => whnf); repeat' (first | ((first | refine bdec ?_ ?_ | refine bnot ?_ ?_ | refine bsel_intro ?_ ?_ | skip) <;> intro hc <;> (try simp (disch := omega) only [nm, nq, Nat.reduceAdd, wrapI] at hc) <;> conv => whnf) | (refine .head _ rfl (by kernel_rfl) ?_; conv => whnf) | (refine And.intro ?_ ?_; (focus ((first | omega | decide | (simp (disch := omega) only [nm, nq, Nat.reduceAdd, wrapI] <;> omega) | (simp [strOf, nm, nq, Nat.reduceAdd] <;> omega) | exact Nat.le_of_ble_eq_true rfl | rfl); done)); conv => whnf) | (rw [vv]; conv => whnf) | (refine NilP.mk fun nb hnb => ?_; conv => whnf))
  refine loopOf (fun i : Nat => ⟨[(1, .ref 0 0), (3, .d (.int .i64 (i : Int)))], [.box [.d (.int .i64 k), .d (.str al), .d (.str n), .d (.list 222 (dQArgs ar)), .d (.list 237 (dQDirs di)), .d (.list 201 (dQSels 222 237 201 ss))]]⟩) (fun i => i ≤ di.length ∧ ∀ j, j < i → valB ((di[j]?).getD default).2 = true) (fun i => di.length - i) 0 rfl ⟨by omega, fun j hj => by omega⟩ ?_
  intro i I hi rec
  obtain ⟨hi1, hi2⟩ := hi
  (conv => whnf); repeat' (first | ((first | refine bdec ?_ ?_ | refine bnot ?_ ?_ | refine bsel_intro ?_ ?_ | skip) <;> intro hc <;> (try simp (disch := omega) only [nm, nq, Nat.reduceAdd, wrapI] at hc) <;> conv => whnf) | (refine .head _ rfl (by kernel_rfl) ?_; conv => whnf) | (refine w231 ?_; conv => whnf) | (apply pcall; (focus (intro _ _ hk; first | exact w231 hk)); conv => whnf) | (refine And.intro ?_ ?_; (focus ((first | omega | decide | (simp (disch := omega) only [nm, nq, Nat.reduceAdd, wrapI] <;> omega) | (simp [strOf, nm, nq, Nat.reduceAdd] <;> omega) | exact Nat.le_of_ble_eq_true rfl | rfl); done)); conv => whnf) | (rw [vv]; conv => whnf) | (refine NilP.mk fun nb hnb => ?_; conv => whnf))
  · refine krB h (selB_dir (x := ⟨k, al, n, ar, di, ss⟩) i (by show i < di.length; omega) (by simpa using hc))
  · refine eqI (rec (i + 1) ⟨by omega, lt_succ_split hi2 (by simpa using hc)⟩ (by omega)) ?_
    rw [wrapS (by omega)]
  have hd : ∀ j, j < di.length → valB ((di[j]?).getD default).2 = true := fun j hj => hi2 j (by omega)
  clear rec
  refine loopOf (fun i : Nat => ⟨[(1, .ref 0 0), (4, .d (.int .i64 (i : Int)))], [.box [.d (.int .i64 k), .d (.str al), .d (.str n), .d (.list 222 (dQArgs ar)), .d (.list 237 (dQDirs di)), .d (.list 201 (dQSels 222 237 201 ss))]]⟩) (fun i => i ≤ ar.length ∧ ∀ j, j < i → argOK ((ar[j]?).getD default) = true) (fun i => ar.length - i) 0 rfl ⟨by omega, fun j hj => by omega⟩ ?_
  intro i I hi rec
  obtain ⟨hi1, hi2⟩ := hi
  (conv => whnf); repeat' (first | ((first | refine bdec ?_ ?_ | refine bnot ?_ ?_ | refine bsel_intro ?_ ?_ | skip) <;> intro hc <;> (try simp (disch := omega) only [nm, nq, Nat.reduceAdd, wrapI] at hc) <;> conv => whnf) | (refine .head _ rfl (by kernel_rfl) ?_; conv => whnf) | (refine w231 ?_; conv => whnf) | (refine w31 ?_; conv => whnf) | (apply pcall; (focus (intro _ _ hk; first | exact w231 hk | exact w31 hk)); conv => whnf) | (refine And.intro ?_ ?_; (focus ((first | omega | decide | (simp (disch := omega) only [nm, nq, Nat.reduceAdd, wrapI] <;> omega) | (simp [strOf, nm, nq, Nat.reduceAdd] <;> omega) | exact Nat.le_of_ble_eq_true rfl | rfl); done)); conv => whnf) | (rw [vv]; conv => whnf) | (refine NilP.mk fun nb hnb => ?_; conv => whnf))
  · refine krB h (selB_arg (x := ⟨k, al, n, ar, di, ss⟩) i (by show i < ar.length; omega) (by simp_all [argOK]))
  · refine krB h (selB_arg (x := ⟨k, al, n, ar, di, ss⟩) i (by show i < ar.length; omega) (by simp_all [argOK]))
  · refine eqI (rec (i + 1) ⟨by omega, lt_succ_split hi2 (by simp_all [argOK])⟩ (by omega)) ?_
    rw [wrapS (by omega)]
  all_goals
    refine krB h ?_
    rw [selB_all (x := ⟨k, al, n, ar, di, ss⟩) hd (fun j hj => hi2 j (by have : j < ar.length := hj; omega))]
    clear rec hi2 hd h
    simp_all [kindB, optB] <;> first | omega | (cases ss <;> simp_all)
abbrev cSel (x : QSel) : C := .agg [.d (.int .i64 x.kind), .d (.str x.alias), .d (.str x.name), .d (.list 222 (dQArgs x.args)), .d (.list 237 (dQDirs x.dirs)), .d (.list 201 (dQSels 222 237 201 x.sels))]
theorem xl02Sel {x : QSel} {Kr Kp : C → List Ob → R} (h : Kr (.d (.bool (selB x))) []) : Wp T Tryz.prog tt 214 [cSel x] [] Kr Kp := w214 h
end Go.Proofs.SL
set_option linter.unusedVariables false
set_option linter.unusedSimpArgs false
set_option maxRecDepth 100000
set_option maxHeartbeats 8000000
namespace Go.Proofs.SL
open Go Go.Proofs Go.Proofs.EN Go.Proofs.VT
variable {T : Tabs}
/-- Selections, right so many sets deep. -/
def okSels : Nat → List QSel → Bool
  | 0, ss => decide (ss = [])
  | k + 1, ss => ss.all fun x => selB x && okSels k x.sels
/-- .. and not too many. -/
def okQ (k : Nat) (ss : List QSel) : Bool := okSels k ss && decide (qCnt ss ≤ 60)
def cntS (k : Nat) (ss : List QSel) : Int := if okQ k ss then (qCnt ss : Int) else 0
theorem qCnt_take_le {ss : List QSel} {i : Nat} : qCnt (ss.take i) ≤ qCnt ss := by
  have h := qCnt_append (ss.take i) (ss.drop i)
  rw [List.take_append_drop] at h
  omega
theorem qCnt_succ {ss : List QSel} {i : Nat} {x : QSel} (h : ss[i]? = some x) : qCnt (ss.take (i + 1)) = qCnt (ss.take i) + (1 + qCnt x.sels) := by
  rw [List.take_add_one, h, qCnt_append]
  simp [qCnt_cons, qCnt_nil]
theorem okS_sel {k : Nat} {ss : List QSel} (i : Nat) (hi : i < ss.length) (h : selB ((ss[i]?).getD default) = false) : okQ (k + 1) ss = false := by
  have : okSels (k + 1) ss = false := all_no (f := fun x => selB x && okSels k x.sels) i hi (by simp [h])
  simp [okQ, this]
theorem okS_in {k : Nat} {ss : List QSel} (i : Nat) (hi : i < ss.length) (h : okQ k ((ss[i]?).getD default).sels = false) : okQ (k + 1) ss = false := by
  rw [okQ, Bool.and_eq_false_iff] at h
  rcases h with h | h
  · have : okSels (k + 1) ss = false := all_no (f := fun x => selB x && okSels k x.sels) i hi (by simp [h])
    simp [okQ, this]
  · have h1 : 1 + qCnt ((ss[i]?).getD default).sels ≤ qCnt ss := qCnt_mem (by simp [hi])
    have h2 : ¬ qCnt ((ss[i]?).getD default).sels ≤ 60 := by simpa using h
    simp [okQ]; omega
theorem okS_many {k : Nat} {ss : List QSel} (i : Nat) (h : 60 < qCnt (ss.take i)) : okQ k ss = false := by
  have := qCnt_take_le (ss := ss) (i := i)
  simp [okQ]; omega
theorem okS_all {k : Nat} {ss : List QSel} (h : ∀ j, j < ss.length → selB ((ss[j]?).getD default) = true ∧ okSels k ((ss[j]?).getD default).sels = true) (h2 : qCnt ss ≤ 60) : okQ (k + 1) ss = true := by
  have : okSels (k + 1) ss = true := all_yes (f := fun x => selB x && okSels k x.sels) fun j hj => by simp [h j hj]
  simp [okQ, this, h2]
theorem okS_ok {k : Nat} {ss : List QSel} (h : okQ k ss = true) : okSels k ss = true ∧ qCnt ss ≤ 60 := by simpa [okQ] using h
theorem w186 : ∀ {k : Nat} {ss : List QSel} {Kr Kp : C → List Ob → R} (h : Kr (.tuple [.d (.int .i64 (cntS k ss)), .d (.bool (okQ k ss))]) []), k ≤ 1000 → Wp T Tryz.prog tt 186 [.d (.list 201 (dQSels 222 237 201 ss)), .d (.int .i64 (k : Int))] [] Kr Kp := by
  intro k
  induction k with
  | zero =>
    intro ss Kr Kp h hk
    refine go (k := 186) (own := true) (cap := .deep) Tryz.func186 (by kernel_rfl) ?_
    (conv => whnf); repeat' (first | ((first | refine bdec ?_ ?_ | refine bnot ?_ ?_ | refine bsel_intro ?_ ?_ | skip) <;> intro hc <;> (try simp (disch := omega) only [nm, nq, Nat.reduceAdd, wrapI] at hc) <;> conv => whnf) | (refine .head _ rfl (by kernel_rfl) ?_; conv => whnf) | (refine And.intro ?_ ?_; (focus ((first | omega | decide | (simp (disch := omega) only [nm, nq, Nat.reduceAdd, wrapI] <;> omega) | (simp [strOf, nm, nq, Nat.reduceAdd] <;> omega) | exact Nat.le_of_ble_eq_true rfl | rfl); done)); conv => whnf) | (rw [vv]; conv => whnf) | (refine NilP.mk fun nb hnb => ?_; conv => whnf))
    · have : ss ≠ [] := fun e => by rw [e] at hc; simp at hc
      have e : okQ 0 ss = false := by simp [okQ, okSels, this]
      simpa [cntS, e] using h
    · obtain rfl : ss = [] := List.eq_nil_of_length_eq_zero (by omega)
      refine loopOf (fun i : Nat => ⟨[(0, .d (.list 201 (dQSels 222 237 201 []))), (1, .d (.int .i64 ((0 : Nat) : Int))), (6, .d (.int .i64 0)), (7, .d (.int .i64 0))], []⟩) (fun i => True) (fun i => 0) 0 rfl trivial ?_
      intro i I hi rec
      (conv => whnf); repeat' (first | ((first | refine bdec ?_ ?_ | refine bnot ?_ ?_ | refine bsel_intro ?_ ?_ | skip) <;> intro hc <;> (try simp (disch := omega) only [nm, nq, Nat.reduceAdd, wrapI] at hc) <;> conv => whnf) | (refine .head _ rfl (by kernel_rfl) ?_; conv => whnf) | (refine And.intro ?_ ?_; (focus ((first | omega | decide | (simp (disch := omega) only [nm, nq, Nat.reduceAdd, wrapI] <;> omega) | (simp [strOf, nm, nq, Nat.reduceAdd] <;> omega) | exact Nat.le_of_ble_eq_true rfl | rfl); done)); conv => whnf) | (rw [vv]; conv => whnf) | (refine NilP.mk fun nb hnb => ?_; conv => whnf))
      simpa [cntS, okQ, okSels, qCnt_nil] using h
  | succ k ih =>
    intro ss Kr Kp h hk
    refine go (k := 186) (own := true) (cap := .deep) Tryz.func186 (by kernel_rfl) ?_
    (conv => whnf); repeat' (first | ((first | refine bdec ?_ ?_ | refine bnot ?_ ?_ | refine bsel_intro ?_ ?_ | skip) <;> intro hc <;> (try simp (disch := omega) only [nm, nq, Nat.reduceAdd, wrapI] at hc) <;> conv => whnf) | (refine .head _ rfl (by kernel_rfl) ?_; conv => whnf) | (refine And.intro ?_ ?_; (focus ((first | omega | decide | (simp (disch := omega) only [nm, nq, Nat.reduceAdd, wrapI] <;> omega) | (simp [strOf, nm, nq, Nat.reduceAdd] <;> omega) | exact Nat.le_of_ble_eq_true rfl | rfl); done)); conv => whnf) | (rw [vv]; conv => whnf) | (refine NilP.mk fun nb hnb => ?_; conv => whnf))
    refine loopOf (fun i : Nat => ⟨[(0, .d (.list 201 (dQSels 222 237 201 ss))), (1, .d (.int .i64 ((k + 1 : Nat) : Int))), (6, .d (.int .i64 (qCnt (ss.take i) : Int))), (7, .d (.int .i64 (i : Int)))], []⟩) (fun i => i ≤ ss.length ∧ qCnt (ss.take i) ≤ 60 ∧ ∀ j, j < i → selB ((ss[j]?).getD default) = true ∧ okSels k ((ss[j]?).getD default).sels = true) (fun i => ss.length - i) 0 (by simp [qCnt_nil]) ⟨by omega, by simp [qCnt_nil], fun j hj => by omega⟩ ?_
    intro i I hi rec
    obtain ⟨hi1, hi2, hi3⟩ := hi
    obtain ⟨x, hx⟩ : ∃ x, (ss[i]?).getD default = x := ⟨_, rfl⟩
    (conv => whnf); repeat' (first | ((first | refine bdec ?_ ?_ | refine bnot ?_ ?_ | refine bsel_intro ?_ ?_ | skip) <;> intro hc <;> (try simp (disch := omega) only [nm, nq, Nat.reduceAdd, hx, wrapI] at hc) <;> conv => whnf) | (refine .head _ rfl (by kernel_rfl) ?_; conv => whnf) | (refine (fun hq => wpArgs (xs' := [cSel x]) (by simp only [nm, nq, Nat.reduceAdd, hx]) (xl02Sel hq)) ?_; conv => whnf) | (refine (fun hq => wpArgs (xs' := [.d (.list 201 (dQSels 222 237 201 x.sels)), .d (.int .i64 (k : Int))]) (by simp only [nm, nq, Nat.reduceAdd, hx]; rw [wrapI (by omega) (by omega)]; congr; omega) (ih hq (by omega))) ?_; conv => whnf) | (apply pcall; (focus (intro _ _ hk; first | exact (fun hq => wpArgs (xs' := [cSel x]) (by simp only [nm, nq, Nat.reduceAdd, hx]) (xl02Sel hq)) hk | exact (fun hq => wpArgs (xs' := [.d (.list 201 (dQSels 222 237 201 x.sels)), .d (.int .i64 (k : Int))]) (by simp only [nm, nq, Nat.reduceAdd, hx]; rw [wrapI (by omega) (by omega)]; congr; omega) (ih hq (by omega))) hk)); conv => whnf) | (refine And.intro ?_ ?_; (focus ((first | omega | decide | (simp (disch := omega) only [nm, nq, Nat.reduceAdd, hx, wrapI] <;> omega) | (simp [strOf, nm, nq, Nat.reduceAdd, hx] <;> omega) | exact Nat.le_of_ble_eq_true rfl | rfl); done)); conv => whnf) | (rw [vv]; conv => whnf) | (refine NilP.mk fun nb hnb => ?_; conv => whnf))
    · have e := okS_sel (k := k) (ss := ss) i (by omega) (by rw [hx]; simpa using hc)
      simpa [cntS, e] using h
    · have e := okS_in (k := k) (ss := ss) i (by omega) (by rw [hx]; simpa using hc)
      simpa [cntS, e] using h
    · have h1 : okQ k x.sels = true := by simpa using ‹(!okQ k x.sels) = false›
      have h2 := okS_ok h1
      have h3 : cntS k x.sels = (qCnt x.sels : Int) := by simp [cntS, h1]
      have h4 := qCnt_succ (of_getD hx (by omega))
      simp (disch := omega) only [h3, wrapI] at hc
      have e := okS_many (k := k + 1) (ss := ss) (i + 1) (by omega)
      simpa [cntS, e] using h
    · have h1 : okQ k x.sels = true := by simpa using ‹(!okQ k x.sels) = false›
      have h2 := okS_ok h1
      have h3 : cntS k x.sels = (qCnt x.sels : Int) := by simp [cntS, h1]
      have h4 := qCnt_succ (of_getD hx (by omega))
      simp (disch := omega) only [h3, wrapI] at hc
      refine eqI (rec (i + 1) ⟨by omega, by omega, lt_succ_split hi3 (by rw [hx]; exact ⟨by simpa using ‹(!selB x) = false›, h2.1⟩)⟩ (by omega)) ?_
      rw [h4]
      simp (disch := omega) only [h3, wrapI, Int.natCast_add, Int.natCast_one]
    · have ht : ss.take i = ss := List.take_of_length_le (by omega)
      rw [ht] at hi2 ⊢
      have e := okS_all (k := k) (ss := ss) (fun j hj => hi3 j (by omega)) hi2
      simpa [cntS, e] using h
end Go.Proofs.SL
set_option linter.unusedVariables false
set_option linter.unusedSimpArgs false
set_option maxRecDepth 100000
set_option maxHeartbeats 8000000
namespace Go.Proofs.SL
open Go Go.Proofs Go.Proofs.EN Go.Proofs.VT
variable {T : Tabs}
def defK (x : QDef) : Bool := if x.1 = 1 ∨ x.1 = 2 then decide (x.2.2.1 = []) && optB x.2.1 else if x.1 = 3 then nameB x.2.1 && (!decide (x.2.1 = tOn) && nameB x.2.2.1) else false
def defB (x : QDef) : Bool := okSels 7 x.2.2.2 && (decide (0 < qCnt x.2.2.2) && defK x)
def cntDoc (d : QDoc) : Nat := (d.map fun x => qCnt x.2.2.2).sum
def docB (d : QDoc) : Bool := inB (d.length : Int) 1 6 && (d.all defB && decide (cntDoc d ≤ 60))
theorem cntDoc_take {d : QDoc} {i : Nat} : cntDoc (d.take i) ≤ cntDoc d := by
  have h := List.take_append_drop i d
  have : cntDoc d = cntDoc (d.take i) + cntDoc (d.drop i) := by
    conv => lhs; rw [← h]
    simp only [cntDoc, List.map_append, List.sum_append]
  omega
theorem cntDoc_succ {d : QDoc} {i : Nat} {x : QDef} (h : d[i]? = some x) : cntDoc (d.take (i + 1)) = cntDoc (d.take i) + qCnt x.2.2.2 := by
  rw [List.take_add_one, h]
  simp [cntDoc]
theorem docB_len {d : QDoc} (h : inB (d.length : Int) 1 6 = false) : docB d = false := by simp [docB, h]
theorem docB_def {d : QDoc} (i : Nat) (hi : i < d.length) (h : defB ((d[i]?).getD default) = false) : docB d = false := by
  simp [docB, all_no (f := defB) i hi h]
theorem docB_many {d : QDoc} (i : Nat) (h : 60 < cntDoc (d.take i)) : docB d = false := by
  have := cntDoc_take (d := d) (i := i)
  simp [docB]; omega
theorem docB_yes {d : QDoc} (h0 : inB (d.length : Int) 1 6 = true) (h : ∀ j, j < d.length → defB ((d[j]?).getD default) = true) (h2 : cntDoc d ≤ 60) : docB d = true := by
  simp [docB, h0, all_yes (f := defB) h, h2]
abbrev cDoc (d : QDoc) : C := .agg [.d (.list 192 (dQDefs 222 237 201 d))]
theorem w164 {d : QDoc} {Kr Kp : C → List Ob → R} (h : Kr (.d (.bool (docB d))) []) : Wp T Tryz.prog tt 164 [cDoc d] [] Kr Kp := by
  refine go (k := 164) (own := true) (cap := .deep) Tryz.func164 (by kernel_rfl) ?_
  (conv => whnf); repeat' (first | ((first | refine bdec ?_ ?_ | refine bnot ?_ ?_ | refine bsel_intro ?_ ?_ | skip) <;> intro hc <;> (try simp (disch := omega) only [nm, nq, Nat.reduceAdd, wrapI] at hc) <;> conv => whnf) | (refine .head _ rfl (by kernel_rfl) ?_; conv => whnf) | (refine w29 ?_; conv => whnf) | (apply pcall; (focus (intro _ _ hk; first | exact w29 hk)); conv => whnf) | (refine And.intro ?_ ?_; (focus ((first | omega | decide | (simp (disch := omega) only [nm, nq, Nat.reduceAdd, wrapI] <;> omega) | (simp [strOf, nm, nq, Nat.reduceAdd] <;> omega) | exact Nat.le_of_ble_eq_true rfl | rfl); done)); conv => whnf) | (rw [vv]; conv => whnf) | (refine NilP.mk fun nb hnb => ?_; conv => whnf))
  · exact krB h (docB_len (by simpa [inB] using hc))
  refine loopOf (fun i : Nat => ⟨[(1, .ref 0 0), (3, .d (.int .i64 (cntDoc (d.take i) : Int))), (4, .d (.int .i64 (i : Int)))], [.box [.d (.list 192 (dQDefs 222 237 201 d))]]⟩) (fun i => i ≤ d.length ∧ cntDoc (d.take i) ≤ 60 ∧ ∀ j, j < i → defB ((d[j]?).getD default) = true) (fun i => d.length - i) 0 (by simp [cntDoc]) ⟨by omega, by simp [cntDoc], fun j hj => by omega⟩ ?_
  intro i I hi rec
  obtain ⟨hi1, hi2, hi3⟩ := hi
  obtain ⟨x, hx⟩ : ∃ x, (d[i]?).getD default = x := ⟨_, rfl⟩
  (conv => whnf); repeat' (first | ((first | refine bdec ?_ ?_ | refine bnot ?_ ?_ | refine bsel_intro ?_ ?_ | skip) <;> intro hc <;> (try simp (disch := omega) only [nm, nq, Nat.reduceAdd, hx, wrapI] at hc) <;> conv => whnf) | (refine .head _ rfl (by kernel_rfl) ?_; conv => whnf) | (refine (fun hq => wpArgs (xs' := [.d (.list 201 (dQSels 222 237 201 x.2.2.2)), .d (.int .i64 ((7 : Nat) : Int))]) (by simp only [nm, nq, Nat.reduceAdd, hx]; rfl) (w186 hq (by omega))) ?_; conv => whnf) | (refine w31 ?_; conv => whnf) | (apply pcall; (focus (intro _ _ hk; first | exact (fun hq => wpArgs (xs' := [.d (.list 201 (dQSels 222 237 201 x.2.2.2)), .d (.int .i64 ((7 : Nat) : Int))]) (by simp only [nm, nq, Nat.reduceAdd, hx]; rfl) (w186 hq (by omega))) hk | exact w31 hk)); conv => whnf) | (refine And.intro ?_ ?_; (focus ((first | omega | decide | (simp (disch := omega) only [nm, nq, Nat.reduceAdd, hx, wrapI] <;> omega) | (simp [strOf, nm, nq, Nat.reduceAdd, hx] <;> omega) | exact Nat.le_of_ble_eq_true rfl | rfl); done)); conv => whnf) | (rw [vv]; conv => whnf) | (refine NilP.mk fun nb hnb => ?_; conv => whnf))
  rotate_right
  · exact krB h (docB_yes (by simp [inB]; omega) (fun j hj => hi3 j (by omega)) (by rw [List.take_of_length_le (by omega)] at hi2; exact hi2))
  all_goals
    have e4 := cntDoc_succ (of_getD hx (by omega))
  · have e : okQ 7 x.2.2.2 = false := by simpa using hc
    simp only [okQ, Bool.and_eq_false_iff, decide_eq_false_iff_not] at e
    rcases e with e | e
    · exact krB h (docB_def i (by omega) (by rw [hx, defB, e]; rfl))
    · exact krB h (docB_many (i + 1) (by omega))
  all_goals
    have e1 : okQ 7 x.2.2.2 = true := by simpa using ‹(!okQ 7 x.2.2.2) = false›
    have e2 := okS_ok e1
    have e3 : cntS 7 x.2.2.2 = (qCnt x.2.2.2 : Int) := by simp [cntS, e1]
  · refine krB h (docB_def i (by omega) ?_)
    rw [hx, defB]
    have : ¬ 0 < qCnt x.2.2.2 := by omega
    simp [this]
  · simp (disch := omega) only [e3, wrapI] at hc
    exact krB h (docB_many (i + 1) (by omega))
  all_goals
    have e5 : 0 < qCnt x.2.2.2 := by omega
    have e6 : ¬ 60 < IntKind.i64.wrap (↑(cntDoc (List.take i d)) + cntS 7 x.2.2.2) := by assumption
    simp (disch := omega) only [e3, wrapI] at e6
    have e7 : defB x = defK x := by simp [defB, e2.1, e5]
    first
      | (refine krB h (docB_def i (by omega) ?_); rw [hx, e7]; clear rec hi3 h; simp_all [defK, optB]; done)
      | (refine eqI (rec (i + 1) ⟨by omega, by omega, lt_succ_split hi3 (by rw [hx, e7]; clear rec hi3 h; simp_all [defK, optB]; done)⟩ (by omega)) ?_
         rw [e4]
         simp (disch := omega) only [e3, wrapI, Int.natCast_add, Int.natCast_one]
         done)
end Go.Proofs.SL
