/- Contracts of functions of this program, by the evaluator EN; part KB. No conditions but those that each theorem states. -/
import Derived.Test.YtekcghhacpllaaaGreatDoorKA
set_option linter.unusedVariables false
set_option linter.unusedSimpArgs false
set_option maxRecDepth 100000
set_option maxHeartbeats 8000000
namespace Go.Proofs.SL
open Go Go.Proofs Go.Proofs.EN Go.Proofs.VT
variable {T : Tabs}
/-! ### Letters, digits, names -/
def letB (c : Int) : Bool := decide (97 ≤ c ∧ c ≤ 122 ∨ 65 ≤ c ∧ c ≤ 90 ∨ c = 95)
def digB (c : Int) : Bool := decide (48 ≤ c ∧ c ≤ 57)
theorem w114 {c : Int} {Kr Kp : C → List Ob → R} (h : Kr (.d (.bool (letB c))) []) : Wp T Tryz.prog tt 114 [.d (.int .u8 c)] [] Kr Kp := by
  refine go (k := 114) (own := true) (cap := .deep) Tryz.func114 (by kernel_rfl) ?_
  (conv => whnf); repeat' (first | ((first | refine bdec ?_ ?_ | refine bnot ?_ ?_ | refine bsel_intro ?_ ?_ | skip) <;> intro hc <;> (try simp (disch := omega) only [nm, wrapI] at hc) <;> conv => whnf) | (refine .head _ rfl (by kernel_rfl) ?_; conv => whnf) | (refine And.intro ?_ ?_; (focus ((first | omega | decide | exact Nat.le_of_ble_eq_true rfl | (simp (disch := omega) only [nm, wrapI] <;> omega) | (simp [strOf, nm] <;> omega) | rfl); done)); conv => whnf) | (rw [vv]; conv => whnf))
  all_goals (refine krB h ?_; simp only [letB]; first | (rw [decide_eq_true_iff]; omega) | (rw [decide_eq_false_iff_not]; omega) | (rw [decide_eq_decide]; omega))
theorem w115 {c : Int} {Kr Kp : C → List Ob → R} (h : Kr (.d (.bool (digB c))) []) : Wp T Tryz.prog tt 115 [.d (.int .u8 c)] [] Kr Kp := by
  refine go (k := 115) (own := true) (cap := .deep) Tryz.func115 (by kernel_rfl) ?_
  (conv => whnf); repeat' (first | ((first | refine bdec ?_ ?_ | refine bnot ?_ ?_ | refine bsel_intro ?_ ?_ | skip) <;> intro hc <;> (try simp (disch := omega) only [nm, wrapI] at hc) <;> conv => whnf) | (refine .head _ rfl (by kernel_rfl) ?_; conv => whnf) | (refine And.intro ?_ ?_; (focus ((first | omega | decide | exact Nat.le_of_ble_eq_true rfl | (simp (disch := omega) only [nm, wrapI] <;> omega) | (simp [strOf, nm] <;> omega) | rfl); done)); conv => whnf) | (rw [vv]; conv => whnf))
  all_goals (refine krB h ?_; simp only [digB]; first | (rw [decide_eq_true_iff]; omega) | (rw [decide_eq_false_iff_not]; omega) | (rw [decide_eq_decide]; omega))
theorem w74 {c : Int} {Kr Kp : C → List Ob → R} (h : Kr (.d (.bool (letB c))) []) : Wp T Tryz.prog tt 74 [.d (.int .u8 c)] [] Kr Kp := by
  refine go (k := 74) (own := true) (cap := .deep) Tryz.func74 (by kernel_rfl) ?_
  (conv => whnf); repeat' (first | ((first | refine bdec ?_ ?_ | refine bnot ?_ ?_ | refine bsel_intro ?_ ?_ | skip) <;> intro hc <;> (try simp (disch := omega) only [nm, wrapI] at hc) <;> conv => whnf) | (refine .head _ rfl (by kernel_rfl) ?_; conv => whnf) | (refine And.intro ?_ ?_; (focus ((first | omega | decide | exact Nat.le_of_ble_eq_true rfl | (simp (disch := omega) only [nm, wrapI] <;> omega) | (simp [strOf, nm] <;> omega) | rfl); done)); conv => whnf) | (rw [vv]; conv => whnf))
  all_goals (refine krB h ?_; simp only [letB]; first | (rw [decide_eq_true_iff]; omega) | (rw [decide_eq_false_iff_not]; omega) | (rw [decide_eq_decide]; omega))
theorem w75 {c : Int} {Kr Kp : C → List Ob → R} (h : Kr (.d (.bool (digB c))) []) : Wp T Tryz.prog tt 75 [.d (.int .u8 c)] [] Kr Kp := by
  refine go (k := 75) (own := true) (cap := .deep) Tryz.func75 (by kernel_rfl) ?_
  (conv => whnf); repeat' (first | ((first | refine bdec ?_ ?_ | refine bnot ?_ ?_ | refine bsel_intro ?_ ?_ | skip) <;> intro hc <;> (try simp (disch := omega) only [nm, wrapI] at hc) <;> conv => whnf) | (refine .head _ rfl (by kernel_rfl) ?_; conv => whnf) | (refine And.intro ?_ ?_; (focus ((first | omega | decide | exact Nat.le_of_ble_eq_true rfl | (simp (disch := omega) only [nm, wrapI] <;> omega) | (simp [strOf, nm] <;> omega) | rfl); done)); conv => whnf) | (rw [vv]; conv => whnf))
  all_goals (refine krB h ?_; simp only [digB]; first | (rw [decide_eq_true_iff]; omega) | (rw [decide_eq_false_iff_not]; omega) | (rw [decide_eq_decide]; omega))
attribute [irreducible] letB digB
/-- Is it right at a place? -/
def okC (t : Str) (j : Nat) : Bool := letB ((t[j]?.getD 0).toNat : Int) || (decide (j ≠ 0) && digB ((t[j]?.getD 0).toNat : Int))
def nameB (t : Str) : Bool := inB (t.length : Int) 1 40 && allN t.length (okC t)
theorem nameB_len {t : Str} (h : ¬ (1 ≤ (t.length : Int) ∧ (t.length : Int) ≤ 40)) : nameB t = false := by
  have : inB (t.length : Int) 1 40 = false := by simpa [inB] using h
  simp [nameB, this]
theorem nameB_no {t : Str} (j : Nat) (hj : j < t.length) (h : okC t j = false) : nameB t = false := by
  simp [nameB, allN_no j hj h]
theorem nameB_yes {t : Str} (h : ∀ j, j < t.length → okC t j = true) : nameB t = inB (t.length : Int) 1 40 := by
  simp [nameB, allN_yes h]
theorem okC_split {t : Str} {i : Nat} (h : ∀ j, j < i → okC t j = true) (h2 : okC t i = true) : ∀ j, j < i + 1 → okC t j = true := lt_succ_split h h2
theorem w71 {t : Str} {Kr Kp : C → List Ob → R} (h : Kr (.d (.bool (nameB t))) []) : Wp T Tryz.prog tt 71 [.d (.str t)] [] Kr Kp := by
  refine go (k := 71) (own := true) (cap := .deep) Tryz.func71 (by kernel_rfl) ?_
  (conv => whnf); repeat' (first | ((first | refine bdec ?_ ?_ | refine bnot ?_ ?_ | refine bsel_intro ?_ ?_ | skip) <;> intro hc <;> (try simp (disch := omega) only [nm, wrapI] at hc) <;> conv => whnf) | (refine .head _ rfl (by kernel_rfl) ?_; conv => whnf) | (refine w114 ?_; conv => whnf) | (refine w115 ?_; conv => whnf) | (apply pcall; (focus (intro _ _ hk; first | exact w114 hk | exact w115 hk)); conv => whnf) | (refine And.intro ?_ ?_; (focus ((first | omega | decide | exact Nat.le_of_ble_eq_true rfl | (simp (disch := omega) only [nm, wrapI] <;> omega) | (simp [strOf, nm] <;> omega) | rfl); done)); conv => whnf) | (rw [vv]; conv => whnf))
  · refine krB h (nameB_len ?_); omega
  · refine krB h (nameB_len ?_); omega
  · refine krB h (nameB_no 0 (by omega) ?_); simp_all [okC]
  rename_i hc
  refine loopOf (fun i : Nat => ⟨[(0, .d (.str t)), (3, .d (.int .i64 ((i + 1 : Nat) : Int)))], []⟩) (fun i => i + 1 ≤ t.length ∧ ∀ j, j < i + 1 → okC t j = true) (fun i => t.length - i) 0 rfl ⟨by omega, okC_split (fun j hj => by omega) (by simp_all [okC])⟩ ?_
  intro i I ⟨hi, hs⟩ rec
  (conv => whnf); repeat' (first | ((first | refine bdec ?_ ?_ | refine bnot ?_ ?_ | refine bsel_intro ?_ ?_ | skip) <;> intro hc <;> (try simp (disch := omega) only [nm, wrapI] at hc) <;> conv => whnf) | (refine .head _ rfl (by kernel_rfl) ?_; conv => whnf) | (refine w114 ?_; conv => whnf) | (refine w115 ?_; conv => whnf) | (apply pcall; (focus (intro _ _ hk; first | exact w114 hk | exact w115 hk)); conv => whnf) | (refine And.intro ?_ ?_; (focus ((first | omega | decide | exact Nat.le_of_ble_eq_true rfl | (simp (disch := omega) only [nm, wrapI] <;> omega) | (simp [strOf, nm] <;> omega) | rfl); done)); conv => whnf) | (rw [vv]; conv => whnf))
  · refine krB h (nameB_no (i + 1) (by omega) ?_); simp_all [okC]
  · refine eqI (rec (i + 1) ⟨by omega, okC_split hs (by simp_all [okC])⟩ (by omega)) ?_
    simp (disch := omega) only [wrapS]
  · refine eqI (rec (i + 1) ⟨by omega, okC_split hs (by simp_all [okC])⟩ (by omega)) ?_
    simp (disch := omega) only [wrapS]
  · refine krB h ?_
    rw [nameB_yes (fun j hj => hs j (by omega))]; simp only [inB, decide_eq_true_iff]; omega
theorem w31 {t : Str} {Kr Kp : C → List Ob → R} (h : Kr (.d (.bool (nameB t))) []) : Wp T Tryz.prog tt 31 [.d (.str t)] [] Kr Kp := by
  refine go (k := 31) (own := true) (cap := .deep) Tryz.func31 (by kernel_rfl) ?_
  (conv => whnf); repeat' (first | ((first | refine bdec ?_ ?_ | refine bnot ?_ ?_ | refine bsel_intro ?_ ?_ | skip) <;> intro hc <;> (try simp (disch := omega) only [nm, wrapI] at hc) <;> conv => whnf) | (refine .head _ rfl (by kernel_rfl) ?_; conv => whnf) | (refine w71 ?_; conv => whnf) | (apply pcall; (focus (intro _ _ hk; first | exact w71 hk)); conv => whnf) | (refine And.intro ?_ ?_; (focus ((first | omega | decide | exact Nat.le_of_ble_eq_true rfl | (simp (disch := omega) only [nm, wrapI] <;> omega) | (simp [strOf, nm] <;> omega) | rfl); done)); conv => whnf) | (rw [vv]; conv => whnf))
  exact h
theorem w36 {t : Str} {Kr Kp : C → List Ob → R} (h : Kr (.d (.bool (nameB t))) []) : Wp T Tryz.prog tt 36 [.d (.str t)] [] Kr Kp := by
  refine go (k := 36) (own := true) (cap := .deep) Tryz.func36 (by kernel_rfl) ?_
  (conv => whnf); repeat' (first | ((first | refine bdec ?_ ?_ | refine bnot ?_ ?_ | refine bsel_intro ?_ ?_ | skip) <;> intro hc <;> (try simp (disch := omega) only [nm, wrapI] at hc) <;> conv => whnf) | (refine .head _ rfl (by kernel_rfl) ?_; conv => whnf) | (refine w74 ?_; conv => whnf) | (refine w75 ?_; conv => whnf) | (apply pcall; (focus (intro _ _ hk; first | exact w74 hk | exact w75 hk)); conv => whnf) | (refine And.intro ?_ ?_; (focus ((first | omega | decide | exact Nat.le_of_ble_eq_true rfl | (simp (disch := omega) only [nm, wrapI] <;> omega) | (simp [strOf, nm] <;> omega) | rfl); done)); conv => whnf) | (rw [vv]; conv => whnf))
  refine loopOf (fun i : Nat => ⟨[(0, .d (.str t)), (5, .d (.int .i64 (t.length : Int))), (6, .d (.int .i64 (i : Int)))], []⟩) (fun i => i ≤ t.length ∧ ∀ j, j < i → okC t j = true) (fun i => t.length - i) 0 rfl ⟨by omega, fun j hj => by omega⟩ ?_
  intro i I ⟨hi, hs⟩ rec
  (conv => whnf); repeat' (first | ((first | refine bdec ?_ ?_ | refine bnot ?_ ?_ | refine bsel_intro ?_ ?_ | skip) <;> intro hc <;> (try simp (disch := omega) only [nm, wrapI] at hc) <;> conv => whnf) | (refine .head _ rfl (by kernel_rfl) ?_; conv => whnf) | (refine w74 ?_; conv => whnf) | (refine w75 ?_; conv => whnf) | (refine w34 ?_; conv => whnf) | (apply pcall; (focus (intro _ _ hk; first | exact w74 hk | exact w75 hk | exact w34 hk)); conv => whnf) | (refine And.intro ?_ ?_; (focus ((first | omega | decide | exact Nat.le_of_ble_eq_true rfl | (simp (disch := omega) only [nm, wrapI] <;> omega) | (simp [strOf, nm] <;> omega) | rfl); done)); conv => whnf) | (rw [vv]; conv => whnf))
  · refine krB h (nameB_no i (by omega) ?_); have : i = 0 := by omega
    simp_all [okC]
  · refine krB h (nameB_no i (by omega) ?_); simp_all [okC]
  · refine eqI (rec (i + 1) ⟨by omega, okC_split hs ?_⟩ (by omega)) ?_
    · have : i ≠ 0 := by omega
      simp_all [okC]
    · simp (disch := omega) only [wrapS]
  · refine eqI (rec (i + 1) ⟨by omega, okC_split hs (by simp_all [okC])⟩ (by omega)) ?_
    simp (disch := omega) only [wrapS]
  · exact krB h (nameB_yes (fun j hj => hs j (by omega)))
end Go.Proofs.SL
