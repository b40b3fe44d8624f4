/- Contracts of functions of this program, by the evaluator EN; part GA2. No conditions but those that each theorem states. -/
import Derived.Test.YtekcghhacpllaaaDoorGA
set_option linter.unusedVariables false
set_option linter.unusedSimpArgs false
set_option maxRecDepth 100000
set_option maxHeartbeats 8000000
namespace Go.Proofs.SL
open Go Go.Proofs Go.Proofs.EN Go.Proofs.VT
variable {T : Tabs}
theorem w49 {n lo hi : Int} {Kr Kp : C → List Ob → R} (h : Kr (.d (.bool (inB n lo hi))) []) : Wp T Tryd.prog tt 49 [.d (.int .i64 n), .d (.int .i64 lo), .d (.int .i64 hi)] [] Kr Kp := by
  refine go (k := 49) (own := true) (cap := .deep) Tryd.func49 (by kernel_rfl) ?_
  (conv => whnf); repeat' (first | ((first | refine bdec ?_ ?_ | refine bnot ?_ ?_ | refine bsel_intro ?_ ?_ | skip) <;> intro hc <;> (try simp (disch := omega) only [nm, wrapI] at hc) <;> conv => whnf) | (refine .head _ rfl (by kernel_rfl) ?_; conv => whnf) | (refine And.intro ?_ ?_; (focus ((first | omega | decide | (simp (disch := omega) only [nm, wrapI] <;> omega) | (simp [strOf, nm] <;> omega) | rfl); done)); conv => whnf) | (rw [vv]; conv => whnf))
  all_goals simp_all [inB]
theorem w54 {n lo hi : Int} {Kr Kp : C → List Ob → R} (h : Kr (.d (.bool (inB n lo hi))) []) : Wp T Tryd.prog tt 54 [.d (.int .i64 n), .d (.int .i64 lo), .d (.int .i64 hi)] [] Kr Kp := by
  refine go (k := 54) (own := true) (cap := .deep) Tryd.func54 (by kernel_rfl) ?_
  (conv => whnf); repeat' (first | ((first | refine bdec ?_ ?_ | refine bnot ?_ ?_ | refine bsel_intro ?_ ?_ | skip) <;> intro hc <;> (try simp (disch := omega) only [nm, wrapI] at hc) <;> conv => whnf) | (refine .head _ rfl (by kernel_rfl) ?_; conv => whnf) | (refine And.intro ?_ ?_; (focus ((first | omega | decide | (simp (disch := omega) only [nm, wrapI] <;> omega) | (simp [strOf, nm] <;> omega) | rfl); done)); conv => whnf) | (rw [vv]; conv => whnf))
  all_goals simp_all [inB]
theorem w90 {n : Int} {Kr Kp : C → List Ob → R} (h : Kr (.d (.bool (inB n (-2147483648) 2147483647))) []) : Wp T Tryd.prog tt 90 [.d (.int .i64 n)] [] Kr Kp := by
  refine go (k := 90) (own := true) (cap := .deep) Tryd.func90 (by kernel_rfl) ?_
  (conv => whnf); repeat' (first | ((first | refine bdec ?_ ?_ | refine bnot ?_ ?_ | refine bsel_intro ?_ ?_ | skip) <;> intro hc <;> (try simp (disch := omega) only [nm, wrapI] at hc) <;> conv => whnf) | (refine .head _ rfl (by kernel_rfl) ?_; conv => whnf) | (refine w49 ?_; conv => whnf) | (apply pcall; (focus (intro _ _ hk; first | exact w49 hk)); conv => whnf) | (refine And.intro ?_ ?_; (focus ((first | omega | decide | (simp (disch := omega) only [nm, wrapI] <;> omega) | (simp [strOf, nm] <;> omega) | rfl); done)); conv => whnf) | (rw [vv]; conv => whnf))
  exact h
theorem w92 {n : Int} {Kr Kp : C → List Ob → R} (h : Kr (.d (.bool (inB n (-2147483648) 2147483647))) []) : Wp T Tryd.prog tt 92 [.d (.int .i64 n)] [] Kr Kp := by
  refine go (k := 92) (own := true) (cap := .deep) Tryd.func92 (by kernel_rfl) ?_
  (conv => whnf); repeat' (first | ((first | refine bdec ?_ ?_ | refine bnot ?_ ?_ | refine bsel_intro ?_ ?_ | skip) <;> intro hc <;> (try simp (disch := omega) only [nm, wrapI] at hc) <;> conv => whnf) | (refine .head _ rfl (by kernel_rfl) ?_; conv => whnf) | (refine w54 ?_; conv => whnf) | (apply pcall; (focus (intro _ _ hk; first | exact w54 hk)); conv => whnf) | (refine And.intro ?_ ?_; (focus ((first | omega | decide | (simp (disch := omega) only [nm, wrapI] <;> omega) | (simp [strOf, nm] <;> omega) | rfl); done)); conv => whnf) | (rw [vv]; conv => whnf))
  exact h
end Go.Proofs.SL
