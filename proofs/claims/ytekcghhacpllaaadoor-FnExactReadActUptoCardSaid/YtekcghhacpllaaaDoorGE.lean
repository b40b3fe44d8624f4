/- Contracts of functions of this program, by the evaluator EN; part GE. No conditions but those that each theorem states. -/
import Derived.Test.YtekcghhacpllaaaDoorGB
set_option linter.unusedVariables false
set_option linter.unusedSimpArgs false
set_option maxRecDepth 100000
set_option maxHeartbeats 8000000
namespace Go.Proofs.SL
open Go Go.Proofs Go.Proofs.EN Go.Proofs.VT
variable {T : Tabs}
theorem atoiN_i64 (t : Str) : -9223372036854775808 ≤ atoiN t ∧ atoiN t ≤ 9223372036854775807 := by
  unfold atoiN
  split
  · rename_i v h
    unfold Lib.atoiAll at h
    split at h
    · cases h
    · rename_i c r
      simp only at h
      split at h
      · cases h
      · cases h
      · rename_i u hu
        split at h
        · cases h
        · split at h
          · cases h
          · simp only [Lib.NumEnd.ok.injEq] at h
            subst h
            split <;> omega
  · unfold Lib.atoiSat
    split <;> omega
  · omega
def nB (t : Str) : Bool := atoiE t && (decide (Lib.itoa (atoiN t) = t) && decide ((Lib.trimPrefix t [45]).length ≤ 18))
theorem w112 {t : Str} {Kr Kp : C → List Ob → R} (hE : HasErr T) (hP : HasPow T) (ht : t.length ≤ 16777216) (h1 : nB t = true → Kr (.tuple [.d (.int .i64 (atoiN t)), .d (.bool true)]) []) (h2 : nB t = false → Kr (.tuple [.d (.int .i64 0), .d (.bool false)]) []) : Wp T Tryd.prog tt 112 [.d (.str t)] [] Kr Kp := by
  refine go (k := 112) (own := true) (cap := .deep) Tryd.func112 (by kernel_rfl) ?_
  have hb := atoiN_i64 t
  refine w125 hE ht ?_
  conv => whnf
  cases he : atoiE t
  · (conv => whnf); repeat' (first | ((first | refine bdec ?_ ?_ | refine bnot ?_ ?_ | refine bsel_intro ?_ ?_ | skip) <;> intro hc <;> (try simp (disch := omega) only [nm, wrapI] at hc) <;> conv => whnf) | (refine .head _ rfl (by kernel_rfl) ?_; conv => whnf) | (refine And.intro ?_ ?_; (focus ((first | omega | decide | (simp (disch := omega) only [nm, wrapI] <;> omega) | (simp [strOf, nm] <;> omega) | rfl); done)); conv => whnf) | (rw [vv]; conv => whnf))
    exact h2 (by simp [nB, he])
  · (conv => whnf); repeat' (first | ((first | refine bdec ?_ ?_ | refine bnot ?_ ?_ | refine bsel_intro ?_ ?_ | skip) <;> intro hc <;> (try simp (disch := omega) only [nm, wrapI] at hc) <;> conv => whnf) | (refine .head _ rfl (by kernel_rfl) ?_; conv => whnf) | (refine w94 hP (by omega) ?_; conv => whnf) | (refine w126 ht ?_; conv => whnf) | (apply pcall; (focus (intro _ _ hk; first | exact w94 hP (by omega) hk | exact w126 ht hk)); conv => whnf) | (refine And.intro ?_ ?_; (focus ((first | omega | decide | (simp (disch := omega) only [nm, wrapI] <;> omega) | (simp [strOf, nm] <;> omega) | rfl); done)); conv => whnf) | (rw [vv]; conv => whnf))
    · refine h2 ?_; simp [nB, he]; intro h; exact absurd h hc
    · refine h2 ?_; simp [nB, he]; intro _; omega
    · refine h1 ?_; simp_all [nB]; omega
theorem nB_yes {t : Str} (h : nB t = true) (h2 : -2147483648 ≤ atoiN t ∧ atoiN t ≤ 2147483647) : intO t = some (atoiN t) := by
  simp only [nB, Bool.and_eq_true, decide_eq_true_eq] at h
  have := intO_itoa h2
  rwa [h.2.1] at this
theorem intO_nB {t : Str} {n : Int} (h : intO t = some n) : nB t = true ∧ atoiN t = n := by
  have hb := intO_bound h
  obtain rfl := intO_some h
  have hl := dec_small32 hb
  have ha := atoi_itoa hl
  have e1 : atoiN (Lib.itoa n) = n := by simp [atoiN, ha]
  exact ⟨by simp [nB, atoiE, ha, e1, trim_itoa, hl], e1⟩
theorem w85 {t : Str} {Kr Kp : C → List Ob → R} (hE : HasErr T) (hP : HasPow T) (ht : t.length ≤ 16777216) (h : Kr (.tuple [.d (.int .i64 ((intO t).getD 0)), .d (.bool (intO t).isSome)]) []) : Wp T Tryd.prog tt 85 [.d (.str t)] [] Kr Kp := by
  refine go (k := 85) (own := true) (cap := .deep) Tryd.func85 (by kernel_rfl) ?_
  refine w112 hE hP ht (fun hn => ?_) (fun hn => ?_)
  · (conv => whnf); repeat' (first | ((first | refine bdec ?_ ?_ | refine bnot ?_ ?_ | refine bsel_intro ?_ ?_ | skip) <;> intro hc <;> (try simp (disch := omega) only [nm, wrapI] at hc) <;> conv => whnf) | (refine .head _ rfl (by kernel_rfl) ?_; conv => whnf) | (refine w92 ?_; conv => whnf) | (apply pcall; (focus (intro _ _ hk; first | exact w92 hk)); conv => whnf) | (refine And.intro ?_ ?_; (focus ((first | omega | decide | (simp (disch := omega) only [nm, wrapI] <;> omega) | (simp [strOf, nm] <;> omega) | rfl); done)); conv => whnf) | (rw [vv]; conv => whnf))
    · have : intO t = none := by
        cases he : intO t with
        | none => rfl
        | some n =>
          have hb := intO_bound he
          rw [← (intO_nB he).2] at hb
          simp_all [inB]
      rw [this] at h; exact h
    · rw [nB_yes hn (by simpa [inB] using hc)] at h; exact h
  · have : intO t = none := by
      cases he : intO t with
      | none => rfl
      | some n => rw [(intO_nB he).1] at hn; cases hn
    rw [this] at h
    (conv => whnf); repeat' (first | ((first | refine bdec ?_ ?_ | refine bnot ?_ ?_ | refine bsel_intro ?_ ?_ | skip) <;> intro hc <;> (try simp (disch := omega) only [nm, wrapI] at hc) <;> conv => whnf) | (refine .head _ rfl (by kernel_rfl) ?_; conv => whnf) | (refine And.intro ?_ ?_; (focus ((first | omega | decide | (simp (disch := omega) only [nm, wrapI] <;> omega) | (simp [strOf, nm] <;> omega) | rfl); done)); conv => whnf) | (rw [vv]; conv => whnf))
    exact h
end Go.Proofs.SL
