/- Contracts of functions of this program, by the evaluator EN; part KM. No conditions but those that each theorem states. -/
import Derived.Test.YtekcghhacpllaaaGreatDoorKL
set_option linter.unusedVariables false
set_option linter.unusedSimpArgs false
set_option maxRecDepth 100000
set_option maxHeartbeats 8000000
namespace Go.Proofs.SL
open Go Go.Proofs Go.Proofs.EN Go.Proofs.VT
variable {T : Tabs}
abbrev oR (ts : List Tok) : Ob := .box [.d (.list 74 (dToks ts))]
def isO (k : Int) (s : Str) (ts : List Tok) : Bool := (takO k s ts).isSome
theorem drop_toks (x : Tok) (r : List Tok) : ((dToks (x :: r)).take ((dToks (x :: r)).length : Int).toNat).drop (Int.toNat 1) = dToks r := by
  rw [Int.toNat_natCast, List.take_length]; rfl
theorem takO_len {k : Int} {s : Str} {ts r : List Tok} (h : takO k s ts = some r) : r.length < ts.length := by
  cases ts with
  | nil => cases h
  | cons x ts =>
    simp only [takO] at h
    split at h
    · cases h; simp
    · cases h
theorem takO_getD {k : Int} {s : Str} {ts : List Tok} : ((takO k s ts).getD ts).length ≤ ts.length := by
  cases h : takO k s ts with
  | none => simp
  | some r => have := takO_len h; simp only [Option.getD_some]; omega
theorem namO_len {ts r : List Tok} {s : Str} (h : namO ts = some (s, r)) : r.length < ts.length := by
  cases ts with
  | nil => cases h
  | cons x ts =>
    simp only [namO] at h
    split at h
    · cases h; simp
    · cases h
theorem argO_inv {ts r : List Tok} {a : ArgDef} (h : argO ts = some (a, r)) : ∃ r1 r2 r3, namO ts = some (a.1, r1) ∧ takO 4 [58] r1 = some r2 ∧ takO 1 tInt r2 = some r3 ∧ a.2 = (takO 4 [33] r3).isSome ∧ r = (takO 4 [33] r3).getD r3 := by
  unfold argO at h
  split at h
  · cases h
  rename_i nn r1 h1
  split at h
  · cases h
  rename_i r2 h2
  split at h
  · cases h
  rename_i r3 h3
  cases h4 : takO 4 [33] r3 with
  | none => rw [h4] at h; simp only [Option.some.injEq, Prod.mk.injEq] at h; obtain ⟨rfl, rfl⟩ := h; exact ⟨_, _, _, h1, h2, h3, by rw [h4]; rfl, by rw [h4]; rfl⟩
  | some r4 => rw [h4] at h; cases h; exact ⟨r1, r2, r3, h1, h2, h3, by rw [h4]; rfl, by rw [h4]; rfl⟩
theorem tailO_inv {nn : Str} {ar : List ArgDef} {ts r : List Tok} {f : FieldDef} (h : tailO nn ar ts = some (f, r)) : ∃ r1 ty r3 r4, takO 4 [58] ts = some r1 ∧ namO ((takO 4 [91] r1).getD r1) = some (ty, r3) ∧ ((takO 4 [91] r1).isSome = true → takO 4 [93] r3 = some r4) ∧ ((takO 4 [91] r1).isSome = false → r4 = r3) ∧
    f = (nn, ar, ty, (takO 4 [91] r1).isSome, (takO 4 [33] r4).isSome) ∧ r = (takO 4 [33] r4).getD r4 := by
  unfold tailO at h
  split at h
  · cases h
  rename_i r1 h1
  cases h2 : takO 4 [91] r1 with
  | some r2 =>
    simp only [h2] at h
    split at h
    · cases h
    rename_i ty r3 h3
    split at h
    · cases h
    rename_i r4 h4
    cases h5 : takO 4 [33] r4 with
    | none => rw [h5] at h; simp only [Option.some.injEq, Prod.mk.injEq] at h; obtain ⟨rfl, rfl⟩ := h; exact ⟨_, _, _, _, h1, by rw [h2]; exact h3, fun _ => h4, (by rw [h2]; intro e; cases e), by rw [h2, h5]; rfl, by rw [h5]; rfl⟩
    | some r5 => rw [h5] at h; cases h; exact ⟨_, _, _, _, h1, by rw [h2]; exact h3, fun _ => h4, (by rw [h2]; intro e; cases e), by rw [h2, h5]; rfl, by rw [h5]; rfl⟩
  | none =>
    simp only [h2] at h
    split at h
    · cases h
    rename_i ty r3 h3
    cases h5 : takO 4 [33] r3 with
    | none => rw [h5] at h; simp only [Option.some.injEq, Prod.mk.injEq] at h; obtain ⟨rfl, rfl⟩ := h; exact ⟨_, _, _, _, h1, by rw [h2]; exact h3, (by rw [h2]; intro e; cases e), fun _ => rfl, by rw [h2, h5]; rfl, by rw [h5]; rfl⟩
    | some r5 => rw [h5] at h; cases h; exact ⟨_, _, _, _, h1, by rw [h2]; exact h3, (by rw [h2]; intro e; cases e), fun _ => rfl, by rw [h2, h5]; rfl, by rw [h5]; rfl⟩
theorem dToks_cons (x : Tok) (r : List Tok) : dToks (x :: r) = dTok x :: dToks r := rfl
theorem w122 {ts : List Tok} {k : Int} {s : Str} {Kr Kp : C → List Ob → R} (h : Kr (.d (.bool (isO k s ts))) [oR ts]) : Wp T Tryz.prog tt 122 [.ref 0 0, .d (.int .i64 k), .d (.str s)] [oR ts] Kr Kp := by
  refine go (k := 122) (own := true) (cap := .deep) Tryz.func122 (by kernel_rfl) ?_
  rcases ts with _ | ⟨⟨k', n', s'⟩, r⟩
  · (conv => whnf); repeat' (first | ((first | refine bdec ?_ ?_ | refine bnot ?_ ?_ | refine bsel_intro ?_ ?_ | skip) <;> intro hc <;> (try simp (disch := omega) only [nm, dArgDefs_len, dToks_len, dToks_0, dToks_1, dToks_2, Nat.reduceAdd, wrapI] at hc) <;> conv => whnf) | (refine .head _ rfl (by kernel_rfl) ?_; conv => whnf) | (refine And.intro ?_ ?_; (focus ((first | omega | decide | (simp (disch := omega) only [nm, dArgDefs_len, dToks_len, dToks_0, dToks_1, dToks_2, Nat.reduceAdd, wrapI] <;> omega) | (simp [strOf, nm, dArgDefs_len, dToks_len, dToks_0, dToks_1, dToks_2, Nat.reduceAdd] <;> omega) | exact Nat.le_of_ble_eq_true rfl | rfl); done)); conv => whnf) | (rw [vv]; conv => whnf) | (refine NilP.mk fun nb hnb => ?_; conv => whnf))
    exact h
  · (conv => whnf); repeat' (first | ((first | refine bdec ?_ ?_ | refine bnot ?_ ?_ | refine bsel_intro ?_ ?_ | skip) <;> intro hc <;> (try simp (disch := omega) only [nm, dArgDefs_len, dToks_len, dToks_0, dToks_1, dToks_2, Nat.reduceAdd, Int.reduceToNat, List.getElem?_cons_zero, Option.getD_some, wrapI] at hc) <;> conv => whnf) | (refine .head _ rfl (by kernel_rfl) ?_; conv => whnf) | (refine And.intro ?_ ?_; (focus ((first | omega | decide | (simp (disch := omega) only [nm, dArgDefs_len, dToks_len, dToks_0, dToks_1, dToks_2, Nat.reduceAdd, Int.reduceToNat, List.getElem?_cons_zero, Option.getD_some, wrapI] <;> omega) | (simp [strOf, nm, dArgDefs_len, dToks_len, dToks_0, dToks_1, dToks_2, Nat.reduceAdd, Int.reduceToNat, List.getElem?_cons_zero, Option.getD_some] <;> omega) | exact Nat.le_of_ble_eq_true rfl | rfl); done)); conv => whnf) | (rw [vv]; conv => whnf) | (refine NilP.mk fun nb hnb => ?_; conv => whnf))
    · refine krB h ?_; have hc : k' = k := ‹k' = k›; simp [isO, takO, dToks_cons, dTok, hc, getS]; split <;> simp_all
    · refine krB h ?_; have hc : ¬ k' = k := ‹¬ k' = k›; simp [isO, takO, hc]
    · have hc : ¬ (0 : Int) < (r.length + 1 : Nat) := hc; omega
theorem w85 {ts : List Tok} {k : Int} {s : Str} {Kr Kp : C → List Ob → R} (h : Kr (.d (.bool (takO k s ts).isSome)) [oR ((takO k s ts).getD ts)]) : Wp T Tryz.prog tt 85 [.ref 0 0, .d (.int .i64 k), .d (.str s)] [oR ts] Kr Kp := by
  refine go (k := 85) (own := true) (cap := .deep) Tryz.func85 (by kernel_rfl) ?_
  rcases ts with _ | ⟨⟨k', n', s'⟩, r⟩
  · (conv => whnf); repeat' (first | ((first | refine bdec ?_ ?_ | refine bnot ?_ ?_ | refine bsel_intro ?_ ?_ | skip) <;> intro hc <;> (try simp (disch := omega) only [nm, dArgDefs_len, dToks_len, dToks_0, dToks_1, dToks_2, Nat.reduceAdd, wrapI] at hc) <;> conv => whnf) | (refine .head _ rfl (by kernel_rfl) ?_; conv => whnf) | (refine w122 ?_; conv => whnf) | (apply pcall; (focus (intro _ _ hk; first | exact w122 hk)); conv => whnf) | (refine And.intro ?_ ?_; (focus ((first | omega | decide | (simp (disch := omega) only [nm, dArgDefs_len, dToks_len, dToks_0, dToks_1, dToks_2, Nat.reduceAdd, wrapI] <;> omega) | (simp [strOf, nm, dArgDefs_len, dToks_len, dToks_0, dToks_1, dToks_2, Nat.reduceAdd] <;> omega) | exact Nat.le_of_ble_eq_true rfl | rfl); done)); conv => whnf) | (rw [vv]; conv => whnf) | (refine NilP.mk fun nb hnb => ?_; conv => whnf))
    exact h
  have hl : (dToks ((k', n', s') :: r)).length = r.length + 1 := by simp
  by_cases hm : k' = k ∧ s' = s
  · have e : takO k s ((k', n', s') :: r) = some r := by simp [takO, hm]
    rw [e] at h
    (conv => whnf); repeat' (first | ((first | refine bdec ?_ ?_ | refine bnot ?_ ?_ | refine bsel_intro ?_ ?_ | skip) <;> intro hc <;> (try simp (disch := omega) only [nm, dArgDefs_len, dToks_len, dToks_0, dToks_1, dToks_2, Nat.reduceAdd, wrapI] at hc) <;> conv => whnf) | (refine .head _ rfl (by kernel_rfl) ?_; conv => whnf) | (refine w122 ?_; conv => whnf) | (apply pcall; (focus (intro _ _ hk; first | exact w122 hk)); conv => whnf) | (refine And.intro ?_ ?_; (focus ((first | omega | decide | (simp (disch := omega) only [nm, dArgDefs_len, dToks_len, dToks_0, dToks_1, dToks_2, Nat.reduceAdd, wrapI] <;> omega) | (simp [strOf, nm, dArgDefs_len, dToks_len, dToks_0, dToks_1, dToks_2, Nat.reduceAdd] <;> omega) | exact Nat.le_of_ble_eq_true rfl | rfl); done)); conv => whnf) | (rw [vv]; conv => whnf) | (refine NilP.mk fun nb hnb => ?_; conv => whnf))
    · have hc : (!isO k s ((k', n', s') :: r)) = true := hc; simp [isO, e] at hc
    · refine krO h ?_; rw [drop_toks]; rfl
  · have e : takO k s ((k', n', s') :: r) = none := by simp only [takO, hm, if_false]
    rw [e] at h
    (conv => whnf); repeat' (first | ((first | refine bdec ?_ ?_ | refine bnot ?_ ?_ | refine bsel_intro ?_ ?_ | skip) <;> intro hc <;> (try simp (disch := omega) only [nm, dArgDefs_len, dToks_len, dToks_0, dToks_1, dToks_2, Nat.reduceAdd, wrapI] at hc) <;> conv => whnf) | (refine .head _ rfl (by kernel_rfl) ?_; conv => whnf) | (refine w122 ?_; conv => whnf) | (apply pcall; (focus (intro _ _ hk; first | exact w122 hk)); conv => whnf) | (refine And.intro ?_ ?_; (focus ((first | omega | decide | (simp (disch := omega) only [nm, dArgDefs_len, dToks_len, dToks_0, dToks_1, dToks_2, Nat.reduceAdd, wrapI] <;> omega) | (simp [strOf, nm, dArgDefs_len, dToks_len, dToks_0, dToks_1, dToks_2, Nat.reduceAdd] <;> omega) | exact Nat.le_of_ble_eq_true rfl | rfl); done)); conv => whnf) | (rw [vv]; conv => whnf) | (refine NilP.mk fun nb hnb => ?_; conv => whnf))
    · exact h
    · have hc : (!isO k s ((k', n', s') :: r)) = false := hc; simp [isO, e] at hc
theorem w83 {ts r : List Tok} {k : Int} {s : Str} {Kr Kp : C → List Ob → R} (hr : takO k s ts = some r) (h : Kr (.tuple []) [oR r]) : Wp T Tryz.prog tt 83 [.ref 0 0, .d (.int .i64 k), .d (.str s)] [oR ts] Kr Kp := by
  refine go (k := 83) (own := true) (cap := .deep) Tryz.func83 (by kernel_rfl) ?_
  (conv => whnf); repeat' (first | ((first | refine bdec ?_ ?_ | refine bnot ?_ ?_ | refine bsel_intro ?_ ?_ | skip) <;> intro hc <;> (try simp (disch := omega) only [nm, dArgDefs_len, dToks_len, dToks_0, dToks_1, dToks_2, Nat.reduceAdd, wrapI] at hc) <;> conv => whnf) | (refine .head _ rfl (by kernel_rfl) ?_; conv => whnf) | (refine w85 ?_; conv => whnf) | (apply pcall; (focus (intro _ _ hk; first | exact w85 hk)); conv => whnf) | (refine And.intro ?_ ?_; (focus ((first | omega | decide | (simp (disch := omega) only [nm, dArgDefs_len, dToks_len, dToks_0, dToks_1, dToks_2, Nat.reduceAdd, wrapI] <;> omega) | (simp [strOf, nm, dArgDefs_len, dToks_len, dToks_0, dToks_1, dToks_2, Nat.reduceAdd] <;> omega) | exact Nat.le_of_ble_eq_true rfl | rfl); done)); conv => whnf) | (rw [vv]; conv => whnf) | (refine NilP.mk fun nb hnb => ?_; conv => whnf))
  · rw [hr] at hc; simp at hc
  · rw [hr]; exact h
theorem w121 {ts : List Tok} {k : Int} {Kr Kp : C → List Ob → R} (h : Kr (.d (.bool (match ts with | [] => false | x :: _ => decide (x.1 = k)))) [oR ts]) : Wp T Tryz.prog tt 121 [.ref 0 0, .d (.int .i64 k)] [oR ts] Kr Kp := by
  refine go (k := 121) (own := true) (cap := .deep) Tryz.func121 (by kernel_rfl) ?_
  rcases ts with _ | ⟨⟨k', n', s'⟩, r⟩
  · (conv => whnf); repeat' (first | ((first | refine bdec ?_ ?_ | refine bnot ?_ ?_ | refine bsel_intro ?_ ?_ | skip) <;> intro hc <;> (try simp (disch := omega) only [nm, dArgDefs_len, dToks_len, dToks_0, dToks_1, dToks_2, Nat.reduceAdd, wrapI] at hc) <;> conv => whnf) | (refine .head _ rfl (by kernel_rfl) ?_; conv => whnf) | (refine And.intro ?_ ?_; (focus ((first | omega | decide | (simp (disch := omega) only [nm, dArgDefs_len, dToks_len, dToks_0, dToks_1, dToks_2, Nat.reduceAdd, wrapI] <;> omega) | (simp [strOf, nm, dArgDefs_len, dToks_len, dToks_0, dToks_1, dToks_2, Nat.reduceAdd] <;> omega) | exact Nat.le_of_ble_eq_true rfl | rfl); done)); conv => whnf) | (rw [vv]; conv => whnf) | (refine NilP.mk fun nb hnb => ?_; conv => whnf))
    exact h
  · (conv => whnf); repeat' (first | ((first | refine bdec ?_ ?_ | refine bnot ?_ ?_ | refine bsel_intro ?_ ?_ | skip) <;> intro hc <;> (try simp (disch := omega) only [nm, dArgDefs_len, dToks_len, dToks_0, dToks_1, dToks_2, Nat.reduceAdd, wrapI] at hc) <;> conv => whnf) | (refine .head _ rfl (by kernel_rfl) ?_; conv => whnf) | (refine And.intro ?_ ?_; (focus ((first | omega | decide | (simp (disch := omega) only [nm, dArgDefs_len, dToks_len, dToks_0, dToks_1, dToks_2, Nat.reduceAdd, wrapI] <;> omega) | (simp [strOf, nm, dArgDefs_len, dToks_len, dToks_0, dToks_1, dToks_2, Nat.reduceAdd] <;> omega) | exact Nat.le_of_ble_eq_true rfl | rfl); done)); conv => whnf) | (rw [vv]; conv => whnf) | (refine NilP.mk fun nb hnb => ?_; conv => whnf))
    · exact h
    · omega
theorem w84 {ts r : List Tok} {s : Str} {Kr Kp : C → List Ob → R} (hr : namO ts = some (s, r)) (h : Kr (.d (.str s)) [oR r]) : Wp T Tryz.prog tt 84 [.ref 0 0] [oR ts] Kr Kp := by
  refine go (k := 84) (own := true) (cap := .deep) Tryz.func84 (by kernel_rfl) ?_
  rcases ts with _ | ⟨⟨k', n', s'⟩, r'⟩
  · cases hr
  have hl : (dToks ((k', n', s') :: r')).length = r'.length + 1 := by simp
  have hk : k' = 1 ∧ s' = s ∧ r' = r := by
    simp only [namO] at hr
    split at hr
    · cases hr; exact ⟨‹_›, rfl, rfl⟩
    · cases hr
  obtain ⟨rfl, rfl, rfl⟩ := hk
  (conv => whnf); repeat' (first | ((first | refine bdec ?_ ?_ | refine bnot ?_ ?_ | refine bsel_intro ?_ ?_ | skip) <;> intro hc <;> (try simp (disch := omega) only [nm, dArgDefs_len, dToks_len, dToks_0, dToks_1, dToks_2, Nat.reduceAdd, wrapI] at hc) <;> conv => whnf) | (refine .head _ rfl (by kernel_rfl) ?_; conv => whnf) | (refine w121 ?_; conv => whnf) | (apply pcall; (focus (intro _ _ hk; first | exact w121 hk)); conv => whnf) | (refine And.intro ?_ ?_; (focus ((first | omega | decide | (simp (disch := omega) only [nm, dArgDefs_len, dToks_len, dToks_0, dToks_1, dToks_2, Nat.reduceAdd, wrapI] <;> omega) | (simp [strOf, nm, dArgDefs_len, dToks_len, dToks_0, dToks_1, dToks_2, Nat.reduceAdd] <;> omega) | exact Nat.le_of_ble_eq_true rfl | rfl); done)); conv => whnf) | (rw [vv]; conv => whnf) | (refine NilP.mk fun nb hnb => ?_; conv => whnf))
  refine krO h ?_; rw [drop_toks]
theorem w86 {ts r : List Tok} {n : Nat} {f : FieldDef} {Kr Kp : C → List Ob → R} (hr : fldO n ts = some (f, r)) (hl : ts.length ≤ 1048576) (h : ∀ ver, Kr (.agg [.d (.str f.1), .row 1, .d (.str f.2.2.1), .d (.bool f.2.2.2.1), .d (.bool f.2.2.2.2)]) [oR r, .row 68 .deep ver (dArgDefs f.2.1)]) : Wp T Tryz.prog tt 86 [.ref 0 0] [oR ts] Kr Kp := by
  refine go (k := 86) (own := true) (cap := .deep) Tryz.func86 (by kernel_rfl) ?_
  obtain ⟨⟨nn, r1⟩, h1⟩ : ∃ x, namO ts = some x := by cases h : namO ts with | none => simp [fldO, h] at hr | some x => exact ⟨x, rfl⟩
  have hn := namO_len h1
  simp only [fldO, h1] at hr
  have tail : ∀ {ar : List ArgDef} {r2 : List Tok}, tailO nn ar r2 = some (f, r) → True := fun _ => trivial
  (conv => whnf); repeat' (first | ((first | refine bdec ?_ ?_ | refine bnot ?_ ?_ | refine bsel_intro ?_ ?_ | skip) <;> intro hc <;> (try simp (disch := omega) only [nm, dArgDefs_len, dToks_len, dToks_0, dToks_1, dToks_2, Nat.reduceAdd, wrapI] at hc) <;> conv => whnf) | (refine .head _ rfl (by kernel_rfl) ?_; conv => whnf) | (refine w84 h1 ?_; conv => whnf) | (refine w85 ?_; conv => whnf) | (apply pcall; (focus (intro _ _ hk; first | exact w84 h1 hk | exact w85 hk)); conv => whnf) | (refine And.intro ?_ ?_; (focus ((first | omega | decide | (simp (disch := omega) only [nm, dArgDefs_len, dToks_len, dToks_0, dToks_1, dToks_2, Nat.reduceAdd, wrapI] <;> omega) | (simp [strOf, nm, dArgDefs_len, dToks_len, dToks_0, dToks_1, dToks_2, Nat.reduceAdd] <;> omega) | exact Nat.le_of_ble_eq_true rfl | rfl); done)); conv => whnf) | (rw [vv]; conv => whnf) | (refine NilP.mk fun nb hnb => ?_; conv => whnf))
  · have hc : (takO 4 [40] r1).isSome = true := hc
    obtain ⟨r2, h2⟩ := Option.isSome_iff_exists.1 hc
    simp only [h2] at hr
    have h2l := takO_len h2
    split at hr
    · cases hr
    rename_i ar r3 h3
    refine loopOf3 (fun (m : Nat) (ts : List Tok) (acc : List ArgDef) => ⟨[(0, .ref 0 0), (2, .ref 1 0), (3, .ref 2 0)], [oR ts, .box [.d (.str []), .row 3, .d (.str []), .d (.bool false), .d (.bool false)], .box [.d (.str nn), .row 4, .d (.str []), .d (.bool false), .d (.bool false)], .row 68 .deep 0 [], .row 68 .deep 0 (dArgDefs acc)]⟩) (fun m ts acc => argsO m ts acc = some (ar, r3) ∧ acc.length + ts.length ≤ 1048576) (fun m _ _ => m) n r2 [] (by rw [show (takO 4 [40] r1).getD r1 = r2 by rw [h2]; rfl]; rfl) ⟨h3, by simp; omega⟩ ?_
    intro m ts acc I ⟨ha, hal⟩ rec
    cases m with
    | zero => cases ha
    | succ m =>
    rcases acc with _ | ⟨a0, acc⟩
    · simp only [argsO] at ha
      split at ha
      · cases ha
      rename_i a s4 hA
      obtain ⟨s1, s2, s3, p1, p2, p3, p4, rfl⟩ := argO_inv hA
      have l1 := namO_len p1
      have l2 := takO_len p2
      have l3 := takO_len p3
      have l4 := takO_getD (k := 4) (s := [33]) (ts := s3)
      have hal2 : ts.length ≤ 1048576 := by simpa using hal
      (conv => whnf); repeat' (first | ((first | refine bdec ?_ ?_ | refine bnot ?_ ?_ | refine bsel_intro ?_ ?_ | skip) <;> intro hc <;> (try simp (disch := omega) only [nm, dArgDefs_len, dToks_len, dToks_0, dToks_1, dToks_2, Nat.reduceAdd, wrapI] at hc) <;> conv => whnf) | (refine .head _ rfl (by kernel_rfl) ?_; conv => whnf) | (refine w84 p1 ?_; conv => whnf) | (refine w83 p2 ?_; conv => whnf) | (refine w83 p3 ?_; conv => whnf) | (refine w85 ?_; conv => whnf) | (apply pcall; (focus (intro _ _ hk; first | exact w84 p1 hk | exact w83 p2 hk | exact w83 p3 hk | exact w85 hk)); conv => whnf) | (refine And.intro ?_ ?_; (focus ((first | omega | decide | (simp (disch := omega) only [nm, dArgDefs_len, dToks_len, dToks_0, dToks_1, dToks_2, Nat.reduceAdd, wrapI] <;> omega) | (simp [strOf, nm, dArgDefs_len, dToks_len, dToks_0, dToks_1, dToks_2, Nat.reduceAdd] <;> omega) | exact Nat.le_of_ble_eq_true rfl | rfl); done)); conv => whnf) | (rw [vv]; conv => whnf) | (refine NilP.mk fun nb hnb => ?_; conv => whnf))
      refine eqI (rec m _ _ ⟨ha, ?_⟩ (by omega)) ?_
      · simp only [List.length_append, List.length_cons, List.length_nil]; omega
      · simp only [dArgDefs, dArgDef, p4, List.map_append, List.map_cons, List.map_nil]
    cases hq : takO 4 [41] ts with
    | none =>
      simp only [argsO, hq] at ha
      split at ha
      · cases ha
      rename_i a s4 hA
      obtain ⟨s1, s2, s3, p1, p2, p3, p4, rfl⟩ := argO_inv hA
      have l1 := namO_len p1
      have l2 := takO_len p2
      have l3 := takO_len p3
      have l4 := takO_getD (k := 4) (s := [33]) (ts := s3)
      have p1' : namO ((takO 4 [41] ts).getD ts) = some (a.1, s1) := by rw [hq]; exact p1
      have hal2 : acc.length + 1 + ts.length ≤ 1048576 := hal
      (conv => whnf); repeat' (first | ((first | refine bdec ?_ ?_ | refine bnot ?_ ?_ | refine bsel_intro ?_ ?_ | skip) <;> intro hc <;> (try simp (disch := omega) only [nm, dArgDefs_len, dToks_len, dToks_0, dToks_1, dToks_2, Nat.reduceAdd, wrapI] at hc) <;> conv => whnf) | (refine .head _ rfl (by kernel_rfl) ?_; conv => whnf) | (refine w84 p1' ?_; conv => whnf) | (refine w83 p2 ?_; conv => whnf) | (refine w83 p3 ?_; conv => whnf) | (refine w85 ?_; conv => whnf) | (apply pcall; (focus (intro _ _ hk; first | exact w84 p1' hk | exact w83 p2 hk | exact w83 p3 hk | exact w85 hk)); conv => whnf) | (refine And.intro ?_ ?_; (focus ((first | omega | decide | (simp (disch := omega) only [nm, dArgDefs_len, dToks_len, dToks_0, dToks_1, dToks_2, Nat.reduceAdd, wrapI] <;> omega) | (simp [strOf, nm, dArgDefs_len, dToks_len, dToks_0, dToks_1, dToks_2, Nat.reduceAdd] <;> omega) | exact Nat.le_of_ble_eq_true rfl | rfl); done)); conv => whnf) | (rw [vv]; conv => whnf) | (refine NilP.mk fun nb hnb => ?_; conv => whnf))
      · refine eqI (rec m _ _ ⟨ha, ?_⟩ (by omega)) ?_
        · simp only [List.length_append, List.length_cons, List.length_nil]; omega
        · simp only [dArgDefs, dArgDef, p4, List.map_append, List.map_cons, List.map_nil]
      · have hc : (!(takO 4 [41] ts).isSome) = false := hc; simp [hq] at hc
    | some r4 =>
      simp only [argsO, hq] at ha
      obtain ⟨rfl, rfl⟩ : a0 :: acc = ar ∧ r4 = r3 := by simpa using ha
      have q0 : (takO 4 [41] ts).getD ts = r4 := by rw [hq]; rfl
      obtain ⟨t1, ty, t3, t4, q1, q2, q3, q4, rfl, rfl⟩ := tailO_inv hr
      have q1 : takO 4 [58] ((takO 4 [41] ts).getD ts) = some t1 := by rw [q0]; exact q1
      by_cases hL : (takO 4 [91] t1).isSome = true
      · (conv => whnf); repeat' (first | ((first | refine bdec ?_ ?_ | refine bnot ?_ ?_ | refine bsel_intro ?_ ?_ | skip) <;> intro hc <;> (try simp (disch := omega) only [nm, dArgDefs_len, dToks_len, dToks_0, dToks_1, dToks_2, Nat.reduceAdd, wrapI] at hc) <;> conv => whnf) | (refine .head _ rfl (by kernel_rfl) ?_; conv => whnf) | (refine w85 ?_; conv => whnf) | (refine w83 q1 ?_; conv => whnf) | (refine w84 q2 ?_; conv => whnf) | (refine w83 (q3 hL) ?_; conv => whnf) | (refine w85 ?_; conv => whnf) | (apply pcall; (focus (intro _ _ hk; first | exact w85 hk | exact w83 q1 hk | exact w84 q2 hk | exact w83 (q3 hL) hk | exact w85 hk)); conv => whnf) | (refine And.intro ?_ ?_; (focus ((first | omega | decide | (simp (disch := omega) only [nm, dArgDefs_len, dToks_len, dToks_0, dToks_1, dToks_2, Nat.reduceAdd, wrapI] <;> omega) | (simp [strOf, nm, dArgDefs_len, dToks_len, dToks_0, dToks_1, dToks_2, Nat.reduceAdd] <;> omega) | exact Nat.le_of_ble_eq_true rfl | rfl); done)); conv => whnf) | (rw [vv]; conv => whnf) | (refine NilP.mk fun nb hnb => ?_; conv => whnf))
        all_goals first
          | exact h _
          | (have hc : (!(takO 4 [41] ts).isSome) = true := hc; rw [hq] at hc; cases hc)
          | (have hc : (takO 4 [91] t1).isSome = true := hc; rw [hL] at hc; cases hc)
          | (have hc : (takO 4 [91] t1).isSome = false := hc; rw [hL] at hc; cases hc)
      · have hL : (takO 4 [91] t1).isSome = false := by simpa using hL
        obtain rfl := q4 hL
        (conv => whnf); repeat' (first | ((first | refine bdec ?_ ?_ | refine bnot ?_ ?_ | refine bsel_intro ?_ ?_ | skip) <;> intro hc <;> (try simp (disch := omega) only [nm, dArgDefs_len, dToks_len, dToks_0, dToks_1, dToks_2, Nat.reduceAdd, wrapI] at hc) <;> conv => whnf) | (refine .head _ rfl (by kernel_rfl) ?_; conv => whnf) | (refine w85 ?_; conv => whnf) | (refine w83 q1 ?_; conv => whnf) | (refine w84 q2 ?_; conv => whnf) | (refine w85 ?_; conv => whnf) | (apply pcall; (focus (intro _ _ hk; first | exact w85 hk | exact w83 q1 hk | exact w84 q2 hk | exact w85 hk)); conv => whnf) | (refine And.intro ?_ ?_; (focus ((first | omega | decide | (simp (disch := omega) only [nm, dArgDefs_len, dToks_len, dToks_0, dToks_1, dToks_2, Nat.reduceAdd, wrapI] <;> omega) | (simp [strOf, nm, dArgDefs_len, dToks_len, dToks_0, dToks_1, dToks_2, Nat.reduceAdd] <;> omega) | exact Nat.le_of_ble_eq_true rfl | rfl); done)); conv => whnf) | (rw [vv]; conv => whnf) | (refine NilP.mk fun nb hnb => ?_; conv => whnf))
        all_goals first
          | exact h _
          | (have hc : (!(takO 4 [41] ts).isSome) = true := hc; rw [hq] at hc; cases hc)
          | (have hc : (takO 4 [91] t1).isSome = true := hc; rw [hL] at hc; cases hc)
          | (have hc : (takO 4 [91] t1).isSome = false := hc; rw [hL] at hc; cases hc)
  · have hc : (takO 4 [40] r1).isSome = false := hc
    have h2 : takO 4 [40] r1 = none := by simpa using hc
    simp only [h2] at hr
    have q0 : (takO 4 [40] r1).getD r1 = r1 := by rw [h2]; rfl
    obtain ⟨t1, ty, t3, t4, q1, q2, q3, q4, rfl, rfl⟩ := tailO_inv hr
    have q1 : takO 4 [58] ((takO 4 [40] r1).getD r1) = some t1 := by rw [q0]; exact q1
    by_cases hL : (takO 4 [91] t1).isSome = true
    · (conv => whnf); repeat' (first | ((first | refine bdec ?_ ?_ | refine bnot ?_ ?_ | refine bsel_intro ?_ ?_ | skip) <;> intro hc <;> (try simp (disch := omega) only [nm, dArgDefs_len, dToks_len, dToks_0, dToks_1, dToks_2, Nat.reduceAdd, wrapI] at hc) <;> conv => whnf) | (refine .head _ rfl (by kernel_rfl) ?_; conv => whnf) | (refine w83 q1 ?_; conv => whnf) | (refine w84 q2 ?_; conv => whnf) | (refine w83 (q3 hL) ?_; conv => whnf) | (refine w85 ?_; conv => whnf) | (apply pcall; (focus (intro _ _ hk; first | exact w83 q1 hk | exact w84 q2 hk | exact w83 (q3 hL) hk | exact w85 hk)); conv => whnf) | (refine And.intro ?_ ?_; (focus ((first | omega | decide | (simp (disch := omega) only [nm, dArgDefs_len, dToks_len, dToks_0, dToks_1, dToks_2, Nat.reduceAdd, wrapI] <;> omega) | (simp [strOf, nm, dArgDefs_len, dToks_len, dToks_0, dToks_1, dToks_2, Nat.reduceAdd] <;> omega) | exact Nat.le_of_ble_eq_true rfl | rfl); done)); conv => whnf) | (rw [vv]; conv => whnf) | (refine NilP.mk fun nb hnb => ?_; conv => whnf))
      all_goals first
        | exact h _
        | (have hc : (!(takO 4 [41] ts).isSome) = true := hc; rw [hq] at hc; cases hc)
        | (have hc : (takO 4 [91] t1).isSome = true := hc; rw [hL] at hc; cases hc)
        | (have hc : (takO 4 [91] t1).isSome = false := hc; rw [hL] at hc; cases hc)
    · have hL : (takO 4 [91] t1).isSome = false := by simpa using hL
      obtain rfl := q4 hL
      (conv => whnf); repeat' (first | ((first | refine bdec ?_ ?_ | refine bnot ?_ ?_ | refine bsel_intro ?_ ?_ | skip) <;> intro hc <;> (try simp (disch := omega) only [nm, dArgDefs_len, dToks_len, dToks_0, dToks_1, dToks_2, Nat.reduceAdd, wrapI] at hc) <;> conv => whnf) | (refine .head _ rfl (by kernel_rfl) ?_; conv => whnf) | (refine w83 q1 ?_; conv => whnf) | (refine w84 q2 ?_; conv => whnf) | (refine w85 ?_; conv => whnf) | (apply pcall; (focus (intro _ _ hk; first | exact w83 q1 hk | exact w84 q2 hk | exact w85 hk)); conv => whnf) | (refine And.intro ?_ ?_; (focus ((first | omega | decide | (simp (disch := omega) only [nm, dArgDefs_len, dToks_len, dToks_0, dToks_1, dToks_2, Nat.reduceAdd, wrapI] <;> omega) | (simp [strOf, nm, dArgDefs_len, dToks_len, dToks_0, dToks_1, dToks_2, Nat.reduceAdd] <;> omega) | exact Nat.le_of_ble_eq_true rfl | rfl); done)); conv => whnf) | (rw [vv]; conv => whnf) | (refine NilP.mk fun nb hnb => ?_; conv => whnf))
      all_goals first
        | exact h _
        | (have hc : (!(takO 4 [41] ts).isSome) = true := hc; rw [hq] at hc; cases hc)
        | (have hc : (takO 4 [91] t1).isSome = true := hc; rw [hL] at hc; cases hc)
        | (have hc : (takO 4 [91] t1).isSome = false := hc; rw [hL] at hc; cases hc)
end Go.Proofs.SL
