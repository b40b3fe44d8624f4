/- Contracts of functions of this program, by the evaluator EN. No conditions but those that each theorem states. -/
import Derived.Test.YtekcghhacpllaaaGreatDoorMM
set_option linter.unusedVariables false
set_option linter.unusedSimpArgs false
set_option maxRecDepth 100000
set_option maxHeartbeats 8000000
namespace Go.Proofs.SL
open Go Go.Proofs Go.Proofs.EN Go.Proofs.VT
variable {T : Tabs}
/-! ### Looks at what is laid out -/
@[simp] theorem dVs_len (vs : List Ver) : (dVs vs).length = vs.length := by simp [dVs]
@[simp] theorem dCh_len (V : TypeId) (cs : List (List Ver)) : (dCh V cs).length = cs.length := by simp [dCh]
theorem dVs_0 (vs : List Ver) (i : Nat) : getI ((((dVs vs)[i]?).getD [])[0]?.getD .z) = ((vs[i]?).getD default).1 := by
  rw [dVs, List.getElem?_map]; cases vs[i]? <;> rfl
theorem dVs_1 (vs : List Ver) (i : Nat) : getI ((((dVs vs)[i]?).getD [])[1]?.getD .z) = ((vs[i]?).getD default).2 := by
  rw [dVs, List.getElem?_map]; cases vs[i]? <;> rfl
theorem dCh_0 (V : TypeId) (cs : List (List Ver)) (i : Nat) : getL ((((dCh V cs)[i]?).getD [])[0]?.getD .z) = dVs ((cs[i]?).getD []) := by
  rw [dCh, List.getElem?_map]; cases cs[i]? <;> rfl
/-! ### All below a number -/
/-! ### What is right -/
def valK (key : Nat) (v : Int) : Bool := if key % 2 = 1 then inB v 0 8 else inB v (-2147483648) 2147483647
theorem tmod2 (n : Nat) : ((n : Int).tmod 2 = 1) ↔ n % 2 = 1 := by
  rw [Int.tmod_eq_emod_of_nonneg (by omega)]; omega
theorem w112 {key : Nat} {v : Int} {Kr Kp : C → List Ob → R} (h : Kr (.d (.bool (valK key v))) []) : Wp T Tryz.prog tt 112 [.d (.int .i64 (key : Int)), .d (.int .i64 v)] [] Kr Kp := by
  refine go (k := 112) (own := true) (cap := .deep) Tryz.func112 (by kernel_rfl) ?_
  (conv => whnf); repeat' (first | ((first | refine bdec ?_ ?_ | refine bnot ?_ ?_ | refine bsel_intro ?_ ?_ | skip) <;> intro hc <;> (try simp (disch := omega) only [List.getD_eq_getElem?_getD, Int.toNat_natCast, toNat_sub1, toNat_add1, CK.norm, big, dVs_len, dCh_len, dStr_len, dVs_0, dVs_1, dCh_0, dStr_0, Nat.zero_add, List.length_map, List.length_take, List.length_append, List.length_cons, List.length_nil, List.length_replicate, not_true_eq_false, wrapI] at hc) <;> conv => whnf) | (refine .head _ rfl (by kernel_rfl) ?_; conv => whnf) | (refine w29 ?_; conv => whnf) | (refine w133 ?_; conv => whnf) | (apply pcall; (focus (intro _ _ hk; first | exact w29 hk | exact w133 hk)); conv => whnf) | (refine And.intro ?_ ?_; (focus ((first | omega | decide | (simp (disch := omega) only [List.getD_eq_getElem?_getD, Int.toNat_natCast, toNat_sub1, toNat_add1, CK.norm, big, dVs_len, dCh_len, dStr_len, dVs_0, dVs_1, dCh_0, dStr_0, Nat.zero_add, List.length_map, List.length_take, List.length_append, List.length_cons, List.length_nil, List.length_replicate, not_true_eq_false, wrapI] <;> omega) | (simp [strOf, List.getD_eq_getElem?_getD, Int.toNat_natCast, toNat_sub1, toNat_add1, CK.norm, big, dVs_len, dCh_len, dStr_len, dVs_0, dVs_1, dCh_0, dStr_0, Nat.zero_add, List.length_map, List.length_take, List.length_append, List.length_cons, List.length_nil, List.length_replicate, not_true_eq_false] <;> omega) | exact Nat.le_of_ble_eq_true rfl | rfl); done)); conv => whnf) | (rw [vv]; conv => whnf) | (refine NilP.mk fun nb hnb => ?_; conv => whnf))
  all_goals simp_all [valK, tmod2]
theorem w108 {key : Nat} {v : Int} {Kr Kp : C → List Ob → R} (h : Kr (.d (.bool (valK key v))) []) : Wp T Tryz.prog tt 108 [.d (.int .i64 (key : Int)), .d (.int .i64 v)] [] Kr Kp := by
  refine go (k := 108) (own := true) (cap := .deep) Tryz.func108 (by kernel_rfl) ?_
  (conv => whnf); repeat' (first | ((first | refine bdec ?_ ?_ | refine bnot ?_ ?_ | refine bsel_intro ?_ ?_ | skip) <;> intro hc <;> (try simp (disch := omega) only [List.getD_eq_getElem?_getD, Int.toNat_natCast, toNat_sub1, toNat_add1, CK.norm, big, dVs_len, dCh_len, dStr_len, dVs_0, dVs_1, dCh_0, dStr_0, Nat.zero_add, List.length_map, List.length_take, List.length_append, List.length_cons, List.length_nil, List.length_replicate, not_true_eq_false, wrapI] at hc) <;> conv => whnf) | (refine .head _ rfl (by kernel_rfl) ?_; conv => whnf) | (refine w34 ?_; conv => whnf) | (refine w130 ?_; conv => whnf) | (apply pcall; (focus (intro _ _ hk; first | exact w34 hk | exact w130 hk)); conv => whnf) | (refine And.intro ?_ ?_; (focus ((first | omega | decide | (simp (disch := omega) only [List.getD_eq_getElem?_getD, Int.toNat_natCast, toNat_sub1, toNat_add1, CK.norm, big, dVs_len, dCh_len, dStr_len, dVs_0, dVs_1, dCh_0, dStr_0, Nat.zero_add, List.length_map, List.length_take, List.length_append, List.length_cons, List.length_nil, List.length_replicate, not_true_eq_false, wrapI] <;> omega) | (simp [strOf, List.getD_eq_getElem?_getD, Int.toNat_natCast, toNat_sub1, toNat_add1, CK.norm, big, dVs_len, dCh_len, dStr_len, dVs_0, dVs_1, dCh_0, dStr_0, Nat.zero_add, List.length_map, List.length_take, List.length_append, List.length_cons, List.length_nil, List.length_replicate, not_true_eq_false] <;> omega) | exact Nat.le_of_ble_eq_true rfl | rfl); done)); conv => whnf) | (rw [vv]; conv => whnf) | (refine NilP.mk fun nb hnb => ?_; conv => whnf))
  all_goals simp_all [valK, tmod2]
def chOK (now : Int) (key : Nat) (c : List Ver) : Bool := allN c.length fun k => inB ((c[k]?).getD default).1 1 now && (valK key ((c[k]?).getD default).2 && (decide (k = 0) || decide (((c[k - 1]?).getD default).1 < ((c[k]?).getD default).1)))
def stOK (s : List (List Ver) × Int) : Bool := decide (s.1.length = 16) && (inB s.2 0 100000 && allN 16 fun i => chOK s.2 i ((s.1[i]?).getD []))
theorem w66 {cs : List (List Ver)} {now : Int} {Kr Kp : C → List Ob → R} (h : Kr (.d (.bool (stOK (cs, now)))) []) : Wp T Tryz.prog tt 66 [.agg [.d (.list 141 (dCh 143 cs)), .d (.int .i64 now)]] [] Kr Kp := by
  refine go (k := 66) (own := true) (cap := .deep) Tryz.func66 (by kernel_rfl) ?_
  (conv => whnf); repeat' (first | ((first | refine bdec ?_ ?_ | refine bnot ?_ ?_ | refine bsel_intro ?_ ?_ | skip) <;> intro hc <;> (try simp (disch := omega) only [List.getD_eq_getElem?_getD, Int.toNat_natCast, toNat_sub1, toNat_add1, CK.norm, big, dVs_len, dCh_len, dStr_len, dVs_0, dVs_1, dCh_0, dStr_0, Nat.zero_add, List.length_map, List.length_take, List.length_append, List.length_cons, List.length_nil, List.length_replicate, not_true_eq_false, wrapI] at hc) <;> conv => whnf) | (refine .head _ rfl (by kernel_rfl) ?_; conv => whnf) | (refine w29 ?_; conv => whnf) | (refine w112 ?_; conv => whnf) | (apply pcall; (focus (intro _ _ hk; first | exact w29 hk | exact w112 hk)); conv => whnf) | (refine And.intro ?_ ?_; (focus ((first | omega | decide | (simp (disch := omega) only [List.getD_eq_getElem?_getD, Int.toNat_natCast, toNat_sub1, toNat_add1, CK.norm, big, dVs_len, dCh_len, dStr_len, dVs_0, dVs_1, dCh_0, dStr_0, Nat.zero_add, List.length_map, List.length_take, List.length_append, List.length_cons, List.length_nil, List.length_replicate, not_true_eq_false, wrapI] <;> omega) | (simp [strOf, List.getD_eq_getElem?_getD, Int.toNat_natCast, toNat_sub1, toNat_add1, CK.norm, big, dVs_len, dCh_len, dStr_len, dVs_0, dVs_1, dCh_0, dStr_0, Nat.zero_add, List.length_map, List.length_take, List.length_append, List.length_cons, List.length_nil, List.length_replicate, not_true_eq_false] <;> omega) | exact Nat.le_of_ble_eq_true rfl | rfl); done)); conv => whnf) | (rw [vv]; conv => whnf) | (refine NilP.mk fun nb hnb => ?_; conv => whnf))
  · simp [stOK, show ¬ cs.length = 16 by omega] at h
    exact h
  · have : inB now 0 100000 = false := by simp_all [inB]
    simp [stOK, this] at h
    exact h
  rename_i _ hl
  have hn := hc
  have hl : cs.length = 16 := by omega
  have hst : stOK (cs, now) = allN 16 fun i => chOK now i ((cs[i]?).getD []) := by
    have : inB now 0 100000 = true := by simpa [inB] using hn
    simp [stOK, this, hl]
  rw [hst] at h
  refine loopBy (fun i : Nat => ⟨[(1, .ref 0 0), (3, .d (.int .i64 (i : Int)))], [.box [.d (.list 141 (dCh 143 cs)), .d (.int .i64 now)]]⟩) (fun i => i ≤ 16 ∧ ∀ j, j < i → chOK now j ((cs[j]?).getD []) = true) (fun i => 16 - i) 0 ⟨by omega, by omega⟩ ?_
  intro i I ⟨hi, ha⟩ rec
  (conv => whnf); repeat' (first | ((first | refine bdec ?_ ?_ | refine bnot ?_ ?_ | refine bsel_intro ?_ ?_ | skip) <;> intro hc <;> (try simp (disch := omega) only [List.getD_eq_getElem?_getD, Int.toNat_natCast, toNat_sub1, toNat_add1, CK.norm, big, dVs_len, dCh_len, dStr_len, dVs_0, dVs_1, dCh_0, dStr_0, Nat.zero_add, List.length_map, List.length_take, List.length_append, List.length_cons, List.length_nil, List.length_replicate, not_true_eq_false, wrapI] at hc) <;> conv => whnf) | (refine .head _ rfl (by kernel_rfl) ?_; conv => whnf) | (refine And.intro ?_ ?_; (focus ((first | omega | decide | (simp (disch := omega) only [List.getD_eq_getElem?_getD, Int.toNat_natCast, toNat_sub1, toNat_add1, CK.norm, big, dVs_len, dCh_len, dStr_len, dVs_0, dVs_1, dCh_0, dStr_0, Nat.zero_add, List.length_map, List.length_take, List.length_append, List.length_cons, List.length_nil, List.length_replicate, not_true_eq_false, wrapI] <;> omega) | (simp [strOf, List.getD_eq_getElem?_getD, Int.toNat_natCast, toNat_sub1, toNat_add1, CK.norm, big, dVs_len, dCh_len, dStr_len, dVs_0, dVs_1, dCh_0, dStr_0, Nat.zero_add, List.length_map, List.length_take, List.length_append, List.length_cons, List.length_nil, List.length_replicate, not_true_eq_false] <;> omega) | exact Nat.le_of_ble_eq_true rfl | rfl); done)); conv => whnf) | (rw [vv]; conv => whnf) | (refine NilP.mk fun nb hnb => ?_; conv => whnf))
  · generalize hq : (cs[i]?).getD [] = q
    refine loopBy (fun k : Nat => ⟨[(1, .ref 0 0), (3, .d (.int .i64 (i : Int))), (4, .d (.int .i64 (k : Int)))], [.box [.d (.list 141 (dCh 143 cs)), .d (.int .i64 now)]]⟩) (fun k => k ≤ q.length ∧ ∀ j, j < k → (inB ((q[j]?).getD default).1 1 now && (valK i ((q[j]?).getD default).2 && (decide (j = 0) || decide (((q[j - 1]?).getD default).1 < ((q[j]?).getD default).1)))) = true) (fun k => q.length - k) 0 ⟨by omega, by omega⟩ ?_
    intro k J ⟨hk, hb⟩ rec2
    (conv => whnf); repeat' (first | ((first | refine bdec ?_ ?_ | refine bnot ?_ ?_ | refine bsel_intro ?_ ?_ | skip) <;> intro hc <;> (try simp (disch := omega) only [List.getD_eq_getElem?_getD, Int.toNat_natCast, toNat_sub1, toNat_add1, CK.norm, big, dVs_len, dCh_len, dStr_len, dVs_0, dVs_1, dCh_0, dStr_0, Nat.zero_add, List.length_map, List.length_take, List.length_append, List.length_cons, List.length_nil, List.length_replicate, not_true_eq_false, hq, wrapI] at hc) <;> conv => whnf) | (refine .head _ rfl (by kernel_rfl) ?_; conv => whnf) | (refine w29 ?_; conv => whnf) | (refine w112 ?_; conv => whnf) | (apply pcall; (focus (intro _ _ hk; first | exact w29 hk | exact w112 hk)); conv => whnf) | (refine And.intro ?_ ?_; (focus ((first | omega | decide | (simp (disch := omega) only [List.getD_eq_getElem?_getD, Int.toNat_natCast, toNat_sub1, toNat_add1, CK.norm, big, dVs_len, dCh_len, dStr_len, dVs_0, dVs_1, dCh_0, dStr_0, Nat.zero_add, List.length_map, List.length_take, List.length_append, List.length_cons, List.length_nil, List.length_replicate, not_true_eq_false, hq, wrapI] <;> omega) | (simp [strOf, List.getD_eq_getElem?_getD, Int.toNat_natCast, toNat_sub1, toNat_add1, CK.norm, big, dVs_len, dCh_len, dStr_len, dVs_0, dVs_1, dCh_0, dStr_0, Nat.zero_add, List.length_map, List.length_take, List.length_append, List.length_cons, List.length_nil, List.length_replicate, not_true_eq_false, hq] <;> omega) | exact Nat.le_of_ble_eq_true rfl | rfl); done)); conv => whnf) | (rw [vv]; conv => whnf) | (refine NilP.mk fun nb hnb => ?_; conv => whnf))
    · rw [allN_no i (by omega) (by rw [hq, chOK]; exact allN_no k (by omega) (by simp [inB, hc]))] at h
      exact h
    · rw [allN_no i (by omega) (by rw [hq, chOK]; exact allN_no k (by omega) (by simp at hc; simp [hc]))] at h
      exact h
    · rw [allN_no i (by omega) (by rw [hq, chOK]; exact allN_no k (by omega) (by simp [show k ≠ 0 by omega, Int.not_lt.2 hc]))] at h
      exact h
    · refine eqI (rec2 (k + 1) ⟨by omega, lt_succ_split hb (by simp_all [inB])⟩ (by omega)) (by rw [wrapS (by omega)])
    · refine eqI (rec2 (k + 1) ⟨by omega, lt_succ_split hb (by simp_all [inB])⟩ (by omega)) (by rw [wrapS (by omega)])
    · refine eqI (rec (i + 1) ⟨by omega, lt_succ_split ha (by rw [hq, chOK]; exact allN_yes fun j hj => hb j (by omega))⟩ (by omega)) (by rw [wrapS (by omega)])
  · rw [allN_yes fun j hj => ha j (by omega)] at h
    exact h
end Go.Proofs.SL
set_option linter.unusedVariables false
set_option linter.unusedSimpArgs false
set_option maxRecDepth 100000
set_option maxHeartbeats 8000000
namespace Go.Proofs.SL
open Go Go.Proofs Go.Proofs.EN Go.Proofs.VT
variable {T : Tabs}
theorem w64 {cs : List (List Ver)} {now : Int} {Kr Kp : C → List Ob → R} (h : Kr (.d (.bool (stOK (cs, now)))) []) : Wp T Tryz.prog tt 64 [.agg [.d (.list 141 (dCh 143 cs)), .d (.int .i64 now)]] [] Kr Kp := by
  refine go (k := 64) (own := true) (cap := .deep) Tryz.func64 (by kernel_rfl) ?_
  (conv => whnf); repeat' (first | ((first | refine bdec ?_ ?_ | refine bnot ?_ ?_ | refine bsel_intro ?_ ?_ | skip) <;> intro hc <;> (try simp (disch := omega) only [List.getD_eq_getElem?_getD, Int.toNat_natCast, toNat_sub1, toNat_add1, CK.norm, big, dVs_len, dCh_len, dStr_len, dVs_0, dVs_1, dCh_0, dStr_0, Nat.zero_add, List.length_map, List.length_take, List.length_append, List.length_cons, List.length_nil, List.length_replicate, not_true_eq_false, wrapI] at hc) <;> conv => whnf) | (refine .head _ rfl (by kernel_rfl) ?_; conv => whnf) | (refine w34 ?_; conv => whnf) | (refine w108 ?_; conv => whnf) | (apply pcall; (focus (intro _ _ hk; first | exact w34 hk | exact w108 hk)); conv => whnf) | (refine And.intro ?_ ?_; (focus ((first | omega | decide | (simp (disch := omega) only [List.getD_eq_getElem?_getD, Int.toNat_natCast, toNat_sub1, toNat_add1, CK.norm, big, dVs_len, dCh_len, dStr_len, dVs_0, dVs_1, dCh_0, dStr_0, Nat.zero_add, List.length_map, List.length_take, List.length_append, List.length_cons, List.length_nil, List.length_replicate, not_true_eq_false, wrapI] <;> omega) | (simp [strOf, List.getD_eq_getElem?_getD, Int.toNat_natCast, toNat_sub1, toNat_add1, CK.norm, big, dVs_len, dCh_len, dStr_len, dVs_0, dVs_1, dCh_0, dStr_0, Nat.zero_add, List.length_map, List.length_take, List.length_append, List.length_cons, List.length_nil, List.length_replicate, not_true_eq_false] <;> omega) | exact Nat.le_of_ble_eq_true rfl | rfl); done)); conv => whnf) | (rw [vv]; conv => whnf) | (refine NilP.mk fun nb hnb => ?_; conv => whnf))
  · simp [stOK, show ¬ cs.length = 16 by omega] at h
    exact h
  · have : inB now 0 100000 = false := by simp_all [inB]
    simp [stOK, this] at h
    exact h
  rename_i _ hl hn
  have hl : cs.length = 16 := by omega
  have hst : stOK (cs, now) = allN 16 fun i => chOK now i ((cs[i]?).getD []) := by
    have : inB now 0 100000 = true := by simpa [inB] using hn
    simp [stOK, this, hl]
  rw [hst] at h
  refine loopOf (fun i : Nat => ⟨[(1, .ref 0 0), (18, .d (.list 141 (dCh 143 cs))), (19, .d (.int .i64 ((dCh 143 cs).length : Int))), (20, .d (.int .i64 (i : Int)))], [.box [.d (.list 141 (dCh 143 cs)), .d (.int .i64 now)]]⟩) (fun i => i ≤ 16 ∧ (∀ j, j < i → chOK now j ((cs[j]?).getD []) = true)) (fun i => 16 - i) 0 ?_ ⟨Nat.zero_le _, ?_⟩ ?_
  · rfl
  · omega
  intro i I ⟨hi, ha⟩ rec
  (conv => whnf); repeat' (first | ((first | refine bdec ?_ ?_ | refine bnot ?_ ?_ | refine bsel_intro ?_ ?_ | skip) <;> intro hc <;> (try simp (disch := omega) only [List.getD_eq_getElem?_getD, Int.toNat_natCast, toNat_sub1, toNat_add1, CK.norm, big, dVs_len, dCh_len, dStr_len, dVs_0, dVs_1, dCh_0, dStr_0, Nat.zero_add, List.length_map, List.length_take, List.length_append, List.length_cons, List.length_nil, List.length_replicate, not_true_eq_false, wrapI] at hc) <;> conv => whnf) | (refine .head _ rfl (by kernel_rfl) ?_; conv => whnf) | (refine And.intro ?_ ?_; (focus ((first | omega | decide | (simp (disch := omega) only [List.getD_eq_getElem?_getD, Int.toNat_natCast, toNat_sub1, toNat_add1, CK.norm, big, dVs_len, dCh_len, dStr_len, dVs_0, dVs_1, dCh_0, dStr_0, Nat.zero_add, List.length_map, List.length_take, List.length_append, List.length_cons, List.length_nil, List.length_replicate, not_true_eq_false, wrapI] <;> omega) | (simp [strOf, List.getD_eq_getElem?_getD, Int.toNat_natCast, toNat_sub1, toNat_add1, CK.norm, big, dVs_len, dCh_len, dStr_len, dVs_0, dVs_1, dCh_0, dStr_0, Nat.zero_add, List.length_map, List.length_take, List.length_append, List.length_cons, List.length_nil, List.length_replicate, not_true_eq_false] <;> omega) | exact Nat.le_of_ble_eq_true rfl | rfl); done)); conv => whnf) | (rw [vv]; conv => whnf) | (refine NilP.mk fun nb hnb => ?_; conv => whnf))
  · generalize hq : (cs[i]?).getD [] = q
    rename_i hc1 hc2
    rw [hq] at hc
    refine loopOf (fun k : Nat => ⟨[(1, .ref 0 0), (3, .d (.int .i64 (i : Int))), (4, .d (.list 143 (dVs q))), (18, .d (.list 141 (dCh 143 cs))), (19, .d (.int .i64 ((dCh 143 cs).length : Int))), (20, .d (.int .i64 (i : Int))), (25, .d (.list 143 (dVs q))), (26, .d (.int .i64 (q.length : Int))), (27, .d (.int .i64 (k : Int)))], [.box [.d (.list 141 (dCh 143 cs)), .d (.int .i64 now)]]⟩) (fun k => k ≤ q.length ∧ ∀ j, j < k → (inB ((q[j]?).getD default).1 1 now && (valK i ((q[j]?).getD default).2 && (decide (j = 0) || decide (((q[j - 1]?).getD default).1 < ((q[j]?).getD default).1)))) = true) (fun k => q.length - k) 0 (by simp only [List.getD_eq_getElem?_getD, Int.toNat_natCast, toNat_sub1, toNat_add1, CK.norm, big, dVs_len, dCh_len, dStr_len, dVs_0, dVs_1, dCh_0, dStr_0, Nat.zero_add, List.length_map, List.length_take, List.length_append, List.length_cons, List.length_nil, List.length_replicate, not_true_eq_false, hq]; rfl) ⟨by omega, by omega⟩ ?_
    intro k J ⟨hk, hb⟩ rec2
    (conv => whnf); repeat' (first | ((first | refine bdec ?_ ?_ | refine bnot ?_ ?_ | refine bsel_intro ?_ ?_ | skip) <;> intro hc <;> (try simp (disch := omega) only [List.getD_eq_getElem?_getD, Int.toNat_natCast, toNat_sub1, toNat_add1, CK.norm, big, dVs_len, dCh_len, dStr_len, dVs_0, dVs_1, dCh_0, dStr_0, Nat.zero_add, List.length_map, List.length_take, List.length_append, List.length_cons, List.length_nil, List.length_replicate, not_true_eq_false, hq, wrapI] at hc) <;> conv => whnf) | (refine .head _ rfl (by kernel_rfl) ?_; conv => whnf) | (refine w34 ?_; conv => whnf) | (refine w108 ?_; conv => whnf) | (apply pcall; (focus (intro _ _ hk; first | exact w34 hk | exact w108 hk)); conv => whnf) | (refine And.intro ?_ ?_; (focus ((first | omega | decide | (simp (disch := omega) only [List.getD_eq_getElem?_getD, Int.toNat_natCast, toNat_sub1, toNat_add1, CK.norm, big, dVs_len, dCh_len, dStr_len, dVs_0, dVs_1, dCh_0, dStr_0, Nat.zero_add, List.length_map, List.length_take, List.length_append, List.length_cons, List.length_nil, List.length_replicate, not_true_eq_false, hq, wrapI] <;> omega) | (simp [strOf, List.getD_eq_getElem?_getD, Int.toNat_natCast, toNat_sub1, toNat_add1, CK.norm, big, dVs_len, dCh_len, dStr_len, dVs_0, dVs_1, dCh_0, dStr_0, Nat.zero_add, List.length_map, List.length_take, List.length_append, List.length_cons, List.length_nil, List.length_replicate, not_true_eq_false, hq] <;> omega) | exact Nat.le_of_ble_eq_true rfl | rfl); done)); conv => whnf) | (rw [vv]; conv => whnf) | (refine NilP.mk fun nb hnb => ?_; conv => whnf))
    all_goals first
      | (refine krB h (allN_no i (by omega) ?_); rw [hq, chOK]; refine allN_no k (by omega) ?_; first | (simp [inB, hc]; done) | (simp at hc; simp [hc]; done) | (simp [show k ≠ 0 by omega, Int.not_lt.2 hc]; done))
      | (refine eqI (rec2 (k + 1) ⟨by omega, lt_succ_split hb ?_⟩ (by omega)) (by rw [wrapS (by omega)]); simp_all [inB]; done)
      | exact eqI (rec (i + 1) ⟨by omega, lt_succ_split ha (by rw [hq, chOK]; exact allN_yes fun j hj => hb j (by omega))⟩ (by omega)) (by rw [wrapS (by omega)])
  · rw [allN_yes fun j hj => ha j (by omega)] at h
    exact h
/-- What a key tells at an hour. -/
def rdAt (c : List Ver) (ts : Int) : Int := c.foldl (fun v x => if x.1 ≤ ts then x.2 else v) 0
theorem take_succ_get {α : Type} (l : List α) (i : Nat) (d : α) (h : i < l.length) : l.take (i + 1) = l.take i ++ [(l[i]?).getD d] := by
  rw [List.take_add_one]; simp [h]
theorem w113 {cs : List (List Ver)} {now ts : Int} {key : Nat} {Kr Kp : C → List Ob → R} (hk : key < cs.length) (h : Kr (.d (.int .i64 (rdAt ((cs[key]?).getD []) ts))) []) : Wp T Tryz.prog tt 113 [.agg [.d (.list 141 (dCh 143 cs)), .d (.int .i64 now)], .d (.int .i64 (key : Int)), .d (.int .i64 ts)] [] Kr Kp := by
  refine go (k := 113) (own := true) (cap := .deep) Tryz.func113 (by kernel_rfl) ?_
  (conv => whnf); repeat' (first | ((first | refine bdec ?_ ?_ | refine bnot ?_ ?_ | refine bsel_intro ?_ ?_ | skip) <;> intro hc <;> (try simp (disch := omega) only [List.getD_eq_getElem?_getD, Int.toNat_natCast, toNat_sub1, toNat_add1, CK.norm, big, dVs_len, dCh_len, dStr_len, dVs_0, dVs_1, dCh_0, dStr_0, Nat.zero_add, List.length_map, List.length_take, List.length_append, List.length_cons, List.length_nil, List.length_replicate, not_true_eq_false, wrapI] at hc) <;> conv => whnf) | (refine .head _ rfl (by kernel_rfl) ?_; conv => whnf) | (refine And.intro ?_ ?_; (focus ((first | omega | decide | (simp (disch := omega) only [List.getD_eq_getElem?_getD, Int.toNat_natCast, toNat_sub1, toNat_add1, CK.norm, big, dVs_len, dCh_len, dStr_len, dVs_0, dVs_1, dCh_0, dStr_0, Nat.zero_add, List.length_map, List.length_take, List.length_append, List.length_cons, List.length_nil, List.length_replicate, not_true_eq_false, wrapI] <;> omega) | (simp [strOf, List.getD_eq_getElem?_getD, Int.toNat_natCast, toNat_sub1, toNat_add1, CK.norm, big, dVs_len, dCh_len, dStr_len, dVs_0, dVs_1, dCh_0, dStr_0, Nat.zero_add, List.length_map, List.length_take, List.length_append, List.length_cons, List.length_nil, List.length_replicate, not_true_eq_false] <;> omega) | exact Nat.le_of_ble_eq_true rfl | rfl); done)); conv => whnf) | (rw [vv]; conv => whnf) | (refine NilP.mk fun nb hnb => ?_; conv => whnf))
  generalize hq : (cs[key]?).getD [] = q at h
  refine loopBy (fun i : Nat => ⟨[(1, .d (.int .i64 (key : Int))), (2, .d (.int .i64 ts)), (3, .ref 0 0), (7, .d (.int .i64 (rdAt (q.take i) ts))), (8, .d (.int .i64 (i : Int)))], [.box [.d (.list 141 (dCh 143 cs)), .d (.int .i64 now)]]⟩) (fun i => i ≤ q.length) (fun i => q.length - i) 0 (Nat.zero_le _) ?_
  intro i I hi rec
  (conv => whnf); repeat' (first | ((first | refine bdec ?_ ?_ | refine bnot ?_ ?_ | refine bsel_intro ?_ ?_ | skip) <;> intro hc <;> (try simp (disch := omega) only [List.getD_eq_getElem?_getD, Int.toNat_natCast, toNat_sub1, toNat_add1, CK.norm, big, dVs_len, dCh_len, dStr_len, dVs_0, dVs_1, dCh_0, dStr_0, Nat.zero_add, List.length_map, List.length_take, List.length_append, List.length_cons, List.length_nil, List.length_replicate, not_true_eq_false, hq, wrapI] at hc) <;> conv => whnf) | (refine .head _ rfl (by kernel_rfl) ?_; conv => whnf) | (refine And.intro ?_ ?_; (focus ((first | omega | decide | (simp (disch := omega) only [List.getD_eq_getElem?_getD, Int.toNat_natCast, toNat_sub1, toNat_add1, CK.norm, big, dVs_len, dCh_len, dStr_len, dVs_0, dVs_1, dCh_0, dStr_0, Nat.zero_add, List.length_map, List.length_take, List.length_append, List.length_cons, List.length_nil, List.length_replicate, not_true_eq_false, hq, wrapI] <;> omega) | (simp [strOf, List.getD_eq_getElem?_getD, Int.toNat_natCast, toNat_sub1, toNat_add1, CK.norm, big, dVs_len, dCh_len, dStr_len, dVs_0, dVs_1, dCh_0, dStr_0, Nat.zero_add, List.length_map, List.length_take, List.length_append, List.length_cons, List.length_nil, List.length_replicate, not_true_eq_false, hq] <;> omega) | exact Nat.le_of_ble_eq_true rfl | rfl); done)); conv => whnf) | (rw [vv]; conv => whnf) | (refine NilP.mk fun nb hnb => ?_; conv => whnf))
  · refine eqI (rec (i + 1) (by omega) (by omega)) ?_
    rw [wrapS (by omega), take_succ_get q i default (by omega)]
    simp only [List.getD_eq_getElem?_getD, Int.toNat_natCast, toNat_sub1, toNat_add1, CK.norm, big, dVs_len, dCh_len, dStr_len, dVs_0, dVs_1, dCh_0, dStr_0, Nat.zero_add, List.length_map, List.length_take, List.length_append, List.length_cons, List.length_nil, List.length_replicate, not_true_eq_false, hq, rdAt, List.foldl_append, List.foldl_cons, List.foldl_nil, if_pos hc]
  · refine eqI (rec (i + 1) (by omega) (by omega)) ?_
    rw [wrapS (by omega), take_succ_get q i default (by omega)]
    simp only [rdAt, List.foldl_append, List.foldl_cons, List.foldl_nil, if_neg hc]
  · rw [List.take_of_length_le (by omega)]
    exact h
def szCh (cs : List (List Ver)) : Nat := (cs.map List.length).sum
theorem szCh_take (cs : List (List Ver)) (n : Nat) : szCh (cs.take n) ≤ szCh cs := by
  have := congrArg szCh (List.take_append_drop n cs)
  simp only [szCh, List.map_append, List.sum_append] at this ⊢
  omega
theorem w111 {cs : List (List Ver)} {now : Int} {Kr Kp : C → List Ob → R} (hb : szCh cs ≤ 4294967296) (h : Kr (.d (.int .i64 (szCh cs : Int))) []) : Wp T Tryz.prog tt 111 [.agg [.d (.list 141 (dCh 143 cs)), .d (.int .i64 now)]] [] Kr Kp := by
  refine go (k := 111) (own := true) (cap := .deep) Tryz.func111 (by kernel_rfl) ?_
  (conv => whnf); repeat' (first | ((first | refine bdec ?_ ?_ | refine bnot ?_ ?_ | refine bsel_intro ?_ ?_ | skip) <;> intro hc <;> (try simp (disch := omega) only [List.getD_eq_getElem?_getD, Int.toNat_natCast, toNat_sub1, toNat_add1, CK.norm, big, dVs_len, dCh_len, dStr_len, dVs_0, dVs_1, dCh_0, dStr_0, Nat.zero_add, List.length_map, List.length_take, List.length_append, List.length_cons, List.length_nil, List.length_replicate, not_true_eq_false, wrapI] at hc) <;> conv => whnf) | (refine .head _ rfl (by kernel_rfl) ?_; conv => whnf) | (refine And.intro ?_ ?_; (focus ((first | omega | decide | (simp (disch := omega) only [List.getD_eq_getElem?_getD, Int.toNat_natCast, toNat_sub1, toNat_add1, CK.norm, big, dVs_len, dCh_len, dStr_len, dVs_0, dVs_1, dCh_0, dStr_0, Nat.zero_add, List.length_map, List.length_take, List.length_append, List.length_cons, List.length_nil, List.length_replicate, not_true_eq_false, wrapI] <;> omega) | (simp [strOf, List.getD_eq_getElem?_getD, Int.toNat_natCast, toNat_sub1, toNat_add1, CK.norm, big, dVs_len, dCh_len, dStr_len, dVs_0, dVs_1, dCh_0, dStr_0, Nat.zero_add, List.length_map, List.length_take, List.length_append, List.length_cons, List.length_nil, List.length_replicate, not_true_eq_false] <;> omega) | exact Nat.le_of_ble_eq_true rfl | rfl); done)); conv => whnf) | (rw [vv]; conv => whnf) | (refine NilP.mk fun nb hnb => ?_; conv => whnf))
  refine loopBy (fun i : Nat => ⟨[(3, .d (.int .i64 (szCh (cs.take i) : Int))), (7, .d (.list 141 (dCh 143 cs))), (8, .d (.int .i64 ((dCh 143 cs).length : Int))), (9, .d (.int .i64 (i : Int)))], []⟩) (fun i => i ≤ cs.length) (fun i => cs.length - i) 0 (Nat.zero_le _) ?_
  intro i I hi rec
  (conv => whnf); repeat' (first | ((first | refine bdec ?_ ?_ | refine bnot ?_ ?_ | refine bsel_intro ?_ ?_ | skip) <;> intro hc <;> (try simp (disch := omega) only [List.getD_eq_getElem?_getD, Int.toNat_natCast, toNat_sub1, toNat_add1, CK.norm, big, dVs_len, dCh_len, dStr_len, dVs_0, dVs_1, dCh_0, dStr_0, Nat.zero_add, List.length_map, List.length_take, List.length_append, List.length_cons, List.length_nil, List.length_replicate, not_true_eq_false, wrapI] at hc) <;> conv => whnf) | (refine .head _ rfl (by kernel_rfl) ?_; conv => whnf) | (refine And.intro ?_ ?_; (focus ((first | omega | decide | (simp (disch := omega) only [List.getD_eq_getElem?_getD, Int.toNat_natCast, toNat_sub1, toNat_add1, CK.norm, big, dVs_len, dCh_len, dStr_len, dVs_0, dVs_1, dCh_0, dStr_0, Nat.zero_add, List.length_map, List.length_take, List.length_append, List.length_cons, List.length_nil, List.length_replicate, not_true_eq_false, wrapI] <;> omega) | (simp [strOf, List.getD_eq_getElem?_getD, Int.toNat_natCast, toNat_sub1, toNat_add1, CK.norm, big, dVs_len, dCh_len, dStr_len, dVs_0, dVs_1, dCh_0, dStr_0, Nat.zero_add, List.length_map, List.length_take, List.length_append, List.length_cons, List.length_nil, List.length_replicate, not_true_eq_false] <;> omega) | exact Nat.le_of_ble_eq_true rfl | rfl); done)); conv => whnf) | (rw [vv]; conv => whnf) | (refine NilP.mk fun nb hnb => ?_; conv => whnf))
  · have hs : szCh (cs.take (i + 1)) = szCh (cs.take i) + ((cs[i]?).getD []).length := by
      rw [take_succ_get cs i [] (by omega)]; simp [szCh]
    have hm := szCh_take cs (i + 1)
    refine eqI (rec (i + 1) (by omega) (by omega)) ?_
    simp only [List.getD_eq_getElem?_getD, Int.toNat_natCast, toNat_sub1, toNat_add1, CK.norm, big, dVs_len, dCh_len, dStr_len, dVs_0, dVs_1, dCh_0, dStr_0, Nat.zero_add, List.length_map, List.length_take, List.length_append, List.length_cons, List.length_nil, List.length_replicate, not_true_eq_false]
    rw [wrapS (by omega), wrapI (by omega) (by omega), hs]
    simp
  · rw [List.take_of_length_le (by omega)]
    exact h
end Go.Proofs.SL
