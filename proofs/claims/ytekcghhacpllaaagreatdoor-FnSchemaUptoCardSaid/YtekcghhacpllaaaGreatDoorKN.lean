/- Contracts of functions of this program, by the evaluator EN; part KN. No conditions but those that each theorem states. -/
import Derived.Test.YtekcghhacpllaaaGreatDoorKM
set_option linter.unusedVariables false
set_option linter.unusedSimpArgs false
set_option maxRecDepth 100000
set_option maxHeartbeats 8000000
namespace Go.Proofs.SL
open Go Go.Proofs Go.Proofs.EN Go.Proofs.VT
variable {T : Tabs}
theorem typO_inv {n : Nat} {ts r : List Tok} {t : TypeDef} (h : typO n ts = some (t, r)) : ∃ r1 r2 r3, takO 1 [116, 121, 112, 101] ts = some r1 ∧ namO r1 = some (t.1, r2) ∧ takO 4 [123] r2 = some r3 ∧ fldsO n r3 [] = some (t.2, r) := by
  unfold typO at h
  split at h
  · cases h
  rename_i r1 h1
  split at h
  · cases h
  rename_i a r2 h2
  split at h
  · cases h
  rename_i r3 h3
  split at h
  · cases h
  rename_i fs r4 h4
  simp only [Option.some.injEq, Prod.mk.injEq] at h
  obtain ⟨rfl, rfl⟩ := h
  exact ⟨_, _, _, h1, h2, h3, h4⟩
theorem argO_len {ts r : List Tok} {a : ArgDef} (h : argO ts = some (a, r)) : r.length < ts.length := by
  obtain ⟨s1, s2, s3, p1, p2, p3, p4, rfl⟩ := argO_inv h
  have l1 := namO_len p1
  have l2 := takO_len p2
  have l3 := takO_len p3
  have l4 := takO_getD (k := 4) (s := [33]) (ts := s3)
  omega
theorem argsO_len : ∀ {n : Nat} {ts r : List Tok} {acc ar : List ArgDef}, argsO n ts acc = some (ar, r) → r.length < ts.length
  | 0, _, _, _, _, h => by cases h
  | n + 1, ts, r, [], ar, h => by
    simp only [argsO] at h
    split at h
    · cases h
    · rename_i a s hA
      have := argO_len hA
      have := argsO_len h
      omega
  | n + 1, ts, r, a0 :: acc, ar, h => by
    cases hq : takO 4 [41] ts with
    | none =>
      simp only [argsO, hq] at h
      split at h
      · cases h
      · rename_i a s hA
        have := argO_len hA
        have := argsO_len h
        omega
    | some q =>
      simp only [argsO, hq, Option.some.injEq, Prod.mk.injEq] at h
      obtain ⟨_, rfl⟩ := h
      exact takO_len hq
theorem tailO_len {x : Str} {ar : List ArgDef} {ts r : List Tok} {f : FieldDef} (h : tailO x ar ts = some (f, r)) : r.length < ts.length := by
  obtain ⟨t1, ty, t3, t4, q1, q2, q3, q4, rfl, rfl⟩ := tailO_inv h
  have l1 := takO_len q1
  have l2 := namO_len q2
  have l3 := takO_getD (k := 4) (s := [91]) (ts := t1)
  have l5 := takO_getD (k := 4) (s := [33]) (ts := t4)
  cases hL : (takO 4 [91] t1).isSome with
  | true => have := takO_len (q3 hL); omega
  | false => have := q4 hL; subst this; omega
theorem fldO_len {n : Nat} {ts r : List Tok} {f : FieldDef} (h : fldO n ts = some (f, r)) : r.length < ts.length := by
  unfold fldO at h
  split at h
  · cases h
  rename_i a r1 h1
  have l1 := namO_len h1
  split at h
  · rename_i r2 h2
    have l2 := takO_len h2
    split at h
    · cases h
    rename_i ar r3 h3
    have l3 := argsO_len h3
    have := tailO_len h
    omega
  · have := tailO_len h
    omega
theorem fldsO_len : ∀ {n : Nat} {ts r : List Tok} {acc fs : List FieldDef}, fldsO n ts acc = some (fs, r) → r.length < ts.length
  | 0, _, _, _, _, h => by cases h
  | n + 1, ts, r, acc, fs, h => by
    cases hq : takO 4 [125] ts with
    | none =>
      simp only [fldsO, hq] at h
      split at h
      · cases h
      · rename_i a s hA
        have := fldO_len hA
        have := fldsO_len h
        omega
    | some q =>
      simp only [fldsO, hq, Option.some.injEq, Prod.mk.injEq] at h
      obtain ⟨_, rfl⟩ := h
      exact takO_len hq
def shO (ts : List Tok) : List TypeDef → List Ob
  | [] => [oR ts, .row 37 .deep 0 [], .box [.row 1], .box [.d (.int .i64 0)]]
  | a :: l => [oR ts, .dead, .box [.row 4], .box [.d (.int .i64 0)], .row 37 .deep 0 (dTypeDefs 40 68 (a :: l))]
theorem w45 {ts : List Tok} {n : Nat} {sc : List TypeDef} {Kr Kp : C → List Ob → R} (hr : schO n ts [] = some sc) (hl : ts.length ≤ 1048576) (h : ∀ ver, Kr (.tuple [.agg [.row 1], .d (.int .i64 0)]) [oR [], .row 37 .deep ver (dTypeDefs 40 68 sc)]) : Wp T Tryz.prog tt 45 [.ref 0 0] [oR ts] Kr Kp := by
  refine goD (k := 45) (kg := 82) (own := true) (cap := .deep) Tryz.func45 Tryz.func82 (by kernel_rfl) (by kernel_rfl) (by kernel_rfl) ?_
  (conv => whnf); repeat' (first | ((first | refine bdec ?_ ?_ | refine bnot ?_ ?_ | refine bsel_intro ?_ ?_ | skip) <;> intro hc <;> (try simp (disch := omega) only [nm, dArgDefs_len, dFieldDefs_len, dTypeDefs_len, dToks_len, dToks_0, dToks_1, dToks_2, Nat.reduceAdd, wrapI] at hc) <;> conv => whnf) | (refine .head _ rfl (by kernel_rfl) ?_; conv => whnf) | (refine And.intro ?_ ?_; (focus ((first | omega | decide | (simp (disch := omega) only [nm, dArgDefs_len, dFieldDefs_len, dTypeDefs_len, dToks_len, dToks_0, dToks_1, dToks_2, Nat.reduceAdd, wrapI] <;> omega) | (simp [strOf, nm, dArgDefs_len, dFieldDefs_len, dTypeDefs_len, dToks_len, dToks_0, dToks_1, dToks_2, Nat.reduceAdd] <;> omega) | exact Nat.le_of_ble_eq_true rfl | rfl); done)); conv => whnf) | (rw [vv]; conv => whnf) | (refine NilP.mk fun nb hnb => ?_; conv => whnf))
  refine loopOf3 (fun (m : Nat) (ts : List Tok) (acc : List TypeDef) => ⟨[(0, .ref 0 0), (2, .ref 2 0), (3, .ref 3 0)], shO ts acc⟩) (fun m ts acc => schO m ts acc = some sc ∧ acc.length + ts.length ≤ 1048576) (fun m _ _ => m) n ts [] rfl ⟨hr, by simp; omega⟩ ?_
  intro m ts acc I ⟨ha, hal⟩ rec
  cases m with
  | zero => cases ha
  | succ m =>
  rcases ts with _ | ⟨x, ts⟩
  · simp only [schO, Option.some.injEq] at ha
    subst ha
    rcases acc with _ | ⟨a0, acc⟩
    · (conv => whnf); repeat' (first | ((first | refine bdec ?_ ?_ | refine bnot ?_ ?_ | refine bsel_intro ?_ ?_ | skip) <;> intro hc <;> (try simp (disch := omega) only [nm, dArgDefs_len, dFieldDefs_len, dTypeDefs_len, dToks_len, dToks_0, dToks_1, dToks_2, Nat.reduceAdd, wrapI] at hc) <;> conv => whnf) | (refine .head _ rfl (by kernel_rfl) ?_; conv => whnf) | (refine And.intro ?_ ?_; (focus ((first | omega | decide | (simp (disch := omega) only [nm, dArgDefs_len, dFieldDefs_len, dTypeDefs_len, dToks_len, dToks_0, dToks_1, dToks_2, Nat.reduceAdd, wrapI] <;> omega) | (simp [strOf, nm, dArgDefs_len, dFieldDefs_len, dTypeDefs_len, dToks_len, dToks_0, dToks_1, dToks_2, Nat.reduceAdd] <;> omega) | exact Nat.le_of_ble_eq_true rfl | rfl); done)); conv => whnf) | (rw [vv]; conv => whnf) | (refine NilP.mk fun nb hnb => ?_; conv => whnf))
      exact h _
    · (conv => whnf); repeat' (first | ((first | refine bdec ?_ ?_ | refine bnot ?_ ?_ | refine bsel_intro ?_ ?_ | skip) <;> intro hc <;> (try simp (disch := omega) only [nm, dArgDefs_len, dFieldDefs_len, dTypeDefs_len, dToks_len, dToks_0, dToks_1, dToks_2, Nat.reduceAdd, wrapI] at hc) <;> conv => whnf) | (refine .head _ rfl (by kernel_rfl) ?_; conv => whnf) | (refine And.intro ?_ ?_; (focus ((first | omega | decide | (simp (disch := omega) only [nm, dArgDefs_len, dFieldDefs_len, dTypeDefs_len, dToks_len, dToks_0, dToks_1, dToks_2, Nat.reduceAdd, wrapI] <;> omega) | (simp [strOf, nm, dArgDefs_len, dFieldDefs_len, dTypeDefs_len, dToks_len, dToks_0, dToks_1, dToks_2, Nat.reduceAdd] <;> omega) | exact Nat.le_of_ble_eq_true rfl | rfl); done)); conv => whnf) | (rw [vv]; conv => whnf) | (refine NilP.mk fun nb hnb => ?_; conv => whnf))
      exact h _
  · simp only [schO] at ha
    split at ha
    · cases ha
    rename_i td s4 hT
    obtain ⟨s1, s2, s3, p1, p2, p3, p4⟩ := typO_inv hT
    have l1 := takO_len p1
    have l2 := namO_len p2
    have l3 := takO_len p3
    have l4 := fldsO_len p4
    have l0 : acc.length + (ts.length + 1) ≤ 1048576 := hal
    simp only [List.length_cons] at l1
    rcases acc with _ | ⟨a0, acc⟩
    · (conv => whnf); repeat' (first | ((first | refine bdec ?_ ?_ | refine bnot ?_ ?_ | refine bsel_intro ?_ ?_ | skip) <;> intro hc <;> (try simp (disch := omega) only [nm, dArgDefs_len, dFieldDefs_len, dTypeDefs_len, dToks_len, dToks_0, dToks_1, dToks_2, Nat.reduceAdd, wrapI] at hc) <;> conv => whnf) | (refine .head _ rfl (by kernel_rfl) ?_; conv => whnf) | (refine w84 p2 ?_; conv => whnf) | (refine w83 p1 ?_; conv => whnf) | (refine w83 p3 ?_; conv => whnf) | (apply pcall; (focus (intro _ _ hk; first | exact w84 p2 hk | exact w83 p1 hk | exact w83 p3 hk)); conv => whnf) | (refine And.intro ?_ ?_; (focus ((first | omega | decide | (simp (disch := omega) only [nm, dArgDefs_len, dFieldDefs_len, dTypeDefs_len, dToks_len, dToks_0, dToks_1, dToks_2, Nat.reduceAdd, wrapI] <;> omega) | (simp [strOf, nm, dArgDefs_len, dFieldDefs_len, dTypeDefs_len, dToks_len, dToks_0, dToks_1, dToks_2, Nat.reduceAdd] <;> omega) | exact Nat.le_of_ble_eq_true rfl | rfl); done)); conv => whnf) | (rw [vv]; conv => whnf) | (refine NilP.mk fun nb hnb => ?_; conv => whnf))
      · refine loopOf3 (fun (k : Nat) (ts2 : List Tok) (ac2 : List FieldDef) => ⟨[(0, .ref 0 0), (2, .ref 2 0), (3, .ref 3 0), (4, .ref 4 0)], [oR ts2, .row 37 .deep 0 [], .box [.row 1], .box [.d (.int .i64 0)], .box [.d (.str td.1), .row 5], .row 40 .deep 0 (dFieldDefs 68 ac2)]⟩) (fun k ts2 ac2 => fldsO k ts2 ac2 = some (td.2, s4) ∧ ac2.length + ts2.length ≤ 1048576) (fun k _ _ => k) m s3 [] rfl ⟨p4, by simp only [List.length_nil]; omega⟩ ?_
        intro k ts2 ac2 J ⟨hb, hbl⟩ rec2
        cases k with
        | zero => cases hb
        | succ k =>
        cases hq : takO 4 [125] ts2 with
        | some q =>
          simp only [fldsO, hq, Option.some.injEq, Prod.mk.injEq] at hb
          obtain ⟨e1, rfl⟩ := hb
          have lq := takO_len hq
          have q0 : (takO 4 [125] ts2).getD ts2 = q := by rw [hq]; rfl
          (conv => whnf); repeat' (first | ((first | refine bdec ?_ ?_ | refine bnot ?_ ?_ | refine bsel_intro ?_ ?_ | skip) <;> intro hc <;> (try simp (disch := omega) only [nm, dArgDefs_len, dFieldDefs_len, dTypeDefs_len, dToks_len, dToks_0, dToks_1, dToks_2, Nat.reduceAdd, wrapI] at hc) <;> conv => whnf) | (refine .head _ rfl (by kernel_rfl) ?_; conv => whnf) | (refine w85 ?_; conv => whnf) | (apply pcall; (focus (intro _ _ hk; first | exact w85 hk)); conv => whnf) | (refine And.intro ?_ ?_; (focus ((first | omega | decide | (simp (disch := omega) only [nm, dArgDefs_len, dFieldDefs_len, dTypeDefs_len, dToks_len, dToks_0, dToks_1, dToks_2, Nat.reduceAdd, wrapI] <;> omega) | (simp [strOf, nm, dArgDefs_len, dFieldDefs_len, dTypeDefs_len, dToks_len, dToks_0, dToks_1, dToks_2, Nat.reduceAdd] <;> omega) | exact Nat.le_of_ble_eq_true rfl | rfl); done)); conv => whnf) | (rw [vv]; conv => whnf) | (refine NilP.mk fun nb hnb => ?_; conv => whnf))
          all_goals first
            | (have hc : (!(takO 4 [125] ts2).isSome) = true := hc; rw [hq] at hc; cases hc; done)
            | (refine eqI (rec m _ _ ⟨ha, ?_⟩ (by omega)) ?_
               · simp only [List.length_append, List.length_cons, List.length_nil]; omega
               · rw [show (takO 4 [125] ts2).getD ts2 = q by rw [hq]; rfl, e1]; simp [shO, dTypeDefs, dTypeDef])
        | none =>
          simp only [fldsO, hq] at hb
          split at hb
          · cases hb
          rename_i f s5 hF
          have l5 := fldO_len hF
          have q0 : (takO 4 [125] ts2).getD ts2 = ts2 := by rw [hq]; rfl
          have hF' : fldO k ((takO 4 [125] ts2).getD ts2) = some (f, s5) := by rw [q0]; exact hF
          have hl2 : ((takO 4 [125] ts2).getD ts2).length ≤ 1048576 := by rw [q0]; omega
          (conv => whnf); repeat' (first | ((first | refine bdec ?_ ?_ | refine bnot ?_ ?_ | refine bsel_intro ?_ ?_ | skip) <;> intro hc <;> (try simp (disch := omega) only [nm, dArgDefs_len, dFieldDefs_len, dTypeDefs_len, dToks_len, dToks_0, dToks_1, dToks_2, Nat.reduceAdd, wrapI] at hc) <;> conv => whnf) | (refine aheadAt 45 (by kernel_rfl) (by kernel_rfl) ?_; conv => whnf) | (refine PAnd.mk ?_ ?_ <;> conv => whnf) | exact PTrue.mk | (refine .head _ rfl (by kernel_rfl) ?_; conv => whnf) | (refine w85 ?_; conv => whnf) | (refine w86 hF' hl2 fun ver => ?_ <;> conv => whnf) | (apply pcall; (focus (intro _ _ hk; first | exact w85 hk | exact w86 hF' hl2 fun ver => ?_ hk)); conv => whnf) | (refine And.intro ?_ ?_; (focus ((first | omega | decide | (simp (disch := omega) only [nm, dArgDefs_len, dFieldDefs_len, dTypeDefs_len, dToks_len, dToks_0, dToks_1, dToks_2, Nat.reduceAdd, wrapI] <;> omega) | (simp [strOf, nm, dArgDefs_len, dFieldDefs_len, dTypeDefs_len, dToks_len, dToks_0, dToks_1, dToks_2, Nat.reduceAdd] <;> omega) | exact Nat.le_of_ble_eq_true rfl | rfl); done)); conv => whnf) | (rw [vv]; conv => whnf) | (refine NilP.mk fun nb hnb => ?_; conv => whnf))
          all_goals first
            | (refine eqI (rec2 k _ _ ⟨hb, ?_⟩ (by omega)) ?_
               · simp only [List.length_append, List.length_cons, List.length_nil]; omega
               · simp [dFieldDefs, dFieldDef]; done)
            | (have hc : (!(takO 4 [125] ts2).isSome) = false := hc; rw [hq] at hc; cases hc; done)
      · have hc : ¬ (0 : Int) < ((ts.length + 1 : Nat) : Int) := hc; omega
    · have l0' : acc.length + 1 + (ts.length + 1) ≤ 1048576 := l0
      (conv => whnf); repeat' (first | ((first | refine bdec ?_ ?_ | refine bnot ?_ ?_ | refine bsel_intro ?_ ?_ | skip) <;> intro hc <;> (try simp (disch := omega) only [nm, dArgDefs_len, dFieldDefs_len, dTypeDefs_len, dToks_len, dToks_0, dToks_1, dToks_2, Nat.reduceAdd, wrapI] at hc) <;> conv => whnf) | (refine .head _ rfl (by kernel_rfl) ?_; conv => whnf) | (refine w84 p2 ?_; conv => whnf) | (refine w83 p1 ?_; conv => whnf) | (refine w83 p3 ?_; conv => whnf) | (apply pcall; (focus (intro _ _ hk; first | exact w84 p2 hk | exact w83 p1 hk | exact w83 p3 hk)); conv => whnf) | (refine And.intro ?_ ?_; (focus ((first | omega | decide | (simp (disch := omega) only [nm, dArgDefs_len, dFieldDefs_len, dTypeDefs_len, dToks_len, dToks_0, dToks_1, dToks_2, Nat.reduceAdd, wrapI] <;> omega) | (simp [strOf, nm, dArgDefs_len, dFieldDefs_len, dTypeDefs_len, dToks_len, dToks_0, dToks_1, dToks_2, Nat.reduceAdd] <;> omega) | exact Nat.le_of_ble_eq_true rfl | rfl); done)); conv => whnf) | (rw [vv]; conv => whnf) | (refine NilP.mk fun nb hnb => ?_; conv => whnf))
      · refine loopOf3 (fun (k : Nat) (ts2 : List Tok) (ac2 : List FieldDef) => ⟨[(0, .ref 0 0), (2, .ref 2 0), (3, .ref 3 0), (4, .ref 4 0)], [oR ts2, .dead, .box [.row 5], .box [.d (.int .i64 0)], .box [.d (.str td.1), .row 6], .row 37 .deep 0 (dTypeDefs 40 68 (a0 :: acc)), .row 40 .deep 0 (dFieldDefs 68 ac2)]⟩) (fun k ts2 ac2 => fldsO k ts2 ac2 = some (td.2, s4) ∧ ac2.length + ts2.length ≤ 1048576) (fun k _ _ => k) m s3 [] rfl ⟨p4, by simp only [List.length_nil]; omega⟩ ?_
        intro k ts2 ac2 J ⟨hb, hbl⟩ rec2
        cases k with
        | zero => cases hb
        | succ k =>
        cases hq : takO 4 [125] ts2 with
        | some q =>
          simp only [fldsO, hq, Option.some.injEq, Prod.mk.injEq] at hb
          obtain ⟨e1, rfl⟩ := hb
          have lq := takO_len hq
          have q0 : (takO 4 [125] ts2).getD ts2 = q := by rw [hq]; rfl
          (conv => whnf); repeat' (first | ((first | refine bdec ?_ ?_ | refine bnot ?_ ?_ | refine bsel_intro ?_ ?_ | skip) <;> intro hc <;> (try simp (disch := omega) only [nm, dArgDefs_len, dFieldDefs_len, dTypeDefs_len, dToks_len, dToks_0, dToks_1, dToks_2, Nat.reduceAdd, wrapI] at hc) <;> conv => whnf) | (refine .head _ rfl (by kernel_rfl) ?_; conv => whnf) | (refine w85 ?_; conv => whnf) | (apply pcall; (focus (intro _ _ hk; first | exact w85 hk)); conv => whnf) | (refine And.intro ?_ ?_; (focus ((first | omega | decide | (simp (disch := omega) only [nm, dArgDefs_len, dFieldDefs_len, dTypeDefs_len, dToks_len, dToks_0, dToks_1, dToks_2, Nat.reduceAdd, wrapI] <;> omega) | (simp [strOf, nm, dArgDefs_len, dFieldDefs_len, dTypeDefs_len, dToks_len, dToks_0, dToks_1, dToks_2, Nat.reduceAdd] <;> omega) | exact Nat.le_of_ble_eq_true rfl | rfl); done)); conv => whnf) | (rw [vv]; conv => whnf) | (refine NilP.mk fun nb hnb => ?_; conv => whnf))
          all_goals first
            | (have hc : (!(takO 4 [125] ts2).isSome) = true := hc; rw [hq] at hc; cases hc; done)
            | (refine eqI (rec m _ _ ⟨ha, ?_⟩ (by omega)) ?_
               · simp only [List.length_append, List.length_cons, List.length_nil]; omega
               · rw [show (takO 4 [125] ts2).getD ts2 = q by rw [hq]; rfl, e1]; simp [shO, dTypeDefs, dTypeDef])
        | none =>
          simp only [fldsO, hq] at hb
          split at hb
          · cases hb
          rename_i f s5 hF
          have l5 := fldO_len hF
          have q0 : (takO 4 [125] ts2).getD ts2 = ts2 := by rw [hq]; rfl
          have hF' : fldO k ((takO 4 [125] ts2).getD ts2) = some (f, s5) := by rw [q0]; exact hF
          have hl2 : ((takO 4 [125] ts2).getD ts2).length ≤ 1048576 := by rw [q0]; omega
          (conv => whnf); repeat' (first | ((first | refine bdec ?_ ?_ | refine bnot ?_ ?_ | refine bsel_intro ?_ ?_ | skip) <;> intro hc <;> (try simp (disch := omega) only [nm, dArgDefs_len, dFieldDefs_len, dTypeDefs_len, dToks_len, dToks_0, dToks_1, dToks_2, Nat.reduceAdd, wrapI] at hc) <;> conv => whnf) | (refine aheadAt 45 (by kernel_rfl) (by kernel_rfl) ?_; conv => whnf) | (refine PAnd.mk ?_ ?_ <;> conv => whnf) | exact PTrue.mk | (refine .head _ rfl (by kernel_rfl) ?_; conv => whnf) | (refine w85 ?_; conv => whnf) | (refine w86 hF' hl2 fun ver => ?_ <;> conv => whnf) | (apply pcall; (focus (intro _ _ hk; first | exact w85 hk | exact w86 hF' hl2 fun ver => ?_ hk)); conv => whnf) | (refine And.intro ?_ ?_; (focus ((first | omega | decide | (simp (disch := omega) only [nm, dArgDefs_len, dFieldDefs_len, dTypeDefs_len, dToks_len, dToks_0, dToks_1, dToks_2, Nat.reduceAdd, wrapI] <;> omega) | (simp [strOf, nm, dArgDefs_len, dFieldDefs_len, dTypeDefs_len, dToks_len, dToks_0, dToks_1, dToks_2, Nat.reduceAdd] <;> omega) | exact Nat.le_of_ble_eq_true rfl | rfl); done)); conv => whnf) | (rw [vv]; conv => whnf) | (refine NilP.mk fun nb hnb => ?_; conv => whnf))
          all_goals first
            | (refine eqI (rec2 k _ _ ⟨hb, ?_⟩ (by omega)) ?_
               · simp only [List.length_append, List.length_cons, List.length_nil]; omega
               · simp [dFieldDefs, dFieldDef]; done)
            | (have hc : (!(takO 4 [125] ts2).isSome) = false := hc; rw [hq] at hc; cases hc; done)
      · have hc : ¬ (0 : Int) < ((ts.length + 1 : Nat) : Int) := hc; omega
end Go.Proofs.SL
