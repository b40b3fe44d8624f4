/- Contracts of functions of this program, by the evaluator EN; part GA2. No conditions but those that each theorem states. -/
import Derived.Test.YtekcghhacpllaaaGreatDoorGA
set_option linter.unusedVariables false
set_option linter.unusedSimpArgs false
set_option maxRecDepth 100000
set_option maxHeartbeats 8000000
namespace Go.Proofs.SL
open Go Go.Proofs Go.Proofs.EN Go.Proofs.VT
variable {T : Tabs}
theorem w29 {n lo hi : Int} {Kr Kp : C → List Ob → R} (h : Kr (.d (.bool (inB n lo hi))) []) : Wp T Tryz.prog tt 29 [.d (.int .i64 n), .d (.int .i64 lo), .d (.int .i64 hi)] [] Kr Kp := by
  refine go (k := 29) (own := true) (cap := .deep) Tryz.func29 (by kernel_rfl) ?_
  (conv => whnf); repeat' (first | ((first | refine bdec ?_ ?_ | refine bnot ?_ ?_ | refine bsel_intro ?_ ?_ | skip) <;> intro hc <;> (try simp (disch := omega) only [nm, wrapI] at hc) <;> conv => whnf) | (refine .head _ rfl (by kernel_rfl) ?_; conv => whnf) | (refine And.intro ?_ ?_; (focus ((first | omega | decide | exact Nat.le_of_ble_eq_true rfl | (simp (disch := omega) only [nm, wrapI] <;> omega) | (simp [strOf, nm] <;> omega) | rfl); done)); conv => whnf) | (rw [vv]; conv => whnf))
  all_goals simp_all [inB]
theorem w34 {n lo hi : Int} {Kr Kp : C → List Ob → R} (h : Kr (.d (.bool (inB n lo hi))) []) : Wp T Tryz.prog tt 34 [.d (.int .i64 n), .d (.int .i64 lo), .d (.int .i64 hi)] [] Kr Kp := by
  refine go (k := 34) (own := true) (cap := .deep) Tryz.func34 (by kernel_rfl) ?_
  (conv => whnf); repeat' (first | ((first | refine bdec ?_ ?_ | refine bnot ?_ ?_ | refine bsel_intro ?_ ?_ | skip) <;> intro hc <;> (try simp (disch := omega) only [nm, wrapI] at hc) <;> conv => whnf) | (refine .head _ rfl (by kernel_rfl) ?_; conv => whnf) | (refine And.intro ?_ ?_; (focus ((first | omega | decide | exact Nat.le_of_ble_eq_true rfl | (simp (disch := omega) only [nm, wrapI] <;> omega) | (simp [strOf, nm] <;> omega) | rfl); done)); conv => whnf) | (rw [vv]; conv => whnf))
  all_goals simp_all [inB]
theorem w133 {n : Int} {Kr Kp : C → List Ob → R} (h : Kr (.d (.bool (inB n (-2147483648) 2147483647))) []) : Wp T Tryz.prog tt 133 [.d (.int .i64 n)] [] Kr Kp := by
  refine go (k := 133) (own := true) (cap := .deep) Tryz.func133 (by kernel_rfl) ?_
  (conv => whnf); repeat' (first | ((first | refine bdec ?_ ?_ | refine bnot ?_ ?_ | refine bsel_intro ?_ ?_ | skip) <;> intro hc <;> (try simp (disch := omega) only [nm, wrapI] at hc) <;> conv => whnf) | (refine .head _ rfl (by kernel_rfl) ?_; conv => whnf) | (refine w29 ?_; conv => whnf) | (apply pcall; (focus (intro _ _ hk; first | exact w29 hk)); conv => whnf) | (refine And.intro ?_ ?_; (focus ((first | omega | decide | exact Nat.le_of_ble_eq_true rfl | (simp (disch := omega) only [nm, wrapI] <;> omega) | (simp [strOf, nm] <;> omega) | rfl); done)); conv => whnf) | (rw [vv]; conv => whnf))
  exact h
theorem w130 {n : Int} {Kr Kp : C → List Ob → R} (h : Kr (.d (.bool (inB n (-2147483648) 2147483647))) []) : Wp T Tryz.prog tt 130 [.d (.int .i64 n)] [] Kr Kp := by
  refine go (k := 130) (own := true) (cap := .deep) Tryz.func130 (by kernel_rfl) ?_
  (conv => whnf); repeat' (first | ((first | refine bdec ?_ ?_ | refine bnot ?_ ?_ | refine bsel_intro ?_ ?_ | skip) <;> intro hc <;> (try simp (disch := omega) only [nm, wrapI] at hc) <;> conv => whnf) | (refine .head _ rfl (by kernel_rfl) ?_; conv => whnf) | (refine w34 ?_; conv => whnf) | (apply pcall; (focus (intro _ _ hk; first | exact w34 hk)); conv => whnf) | (refine And.intro ?_ ?_; (focus ((first | omega | decide | exact Nat.le_of_ble_eq_true rfl | (simp (disch := omega) only [nm, wrapI] <;> omega) | (simp [strOf, nm] <;> omega) | rfl); done)); conv => whnf) | (rw [vv]; conv => whnf))
  exact h
end Go.Proofs.SL
