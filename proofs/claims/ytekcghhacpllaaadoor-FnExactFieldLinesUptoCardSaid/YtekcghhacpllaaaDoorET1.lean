/- Contracts of functions of this program, by the evaluator EN; part ET1. No conditions but those that each theorem states. -/
import Derived.Test.YtekcghhacpllaaaDoorEU
set_option linter.unusedVariables false
set_option linter.unusedSimpArgs false
set_option maxRecDepth 100000
set_option maxHeartbeats 8000000
namespace Go.Proofs.SL
open Go Go.Proofs Go.Proofs.EN Go.Proofs.VT
variable {T : Tabs}
def digs : Nat → Nat → Str → Str
  | 0, _, acc => acc
  | f + 1, n, acc => if n = 0 then acc else digs f (n / 10) (UInt8.ofNat (48 + n % 10) :: acc)
def markT (k : Int) : Str := if k ≤ 0 then [109, 48] else 109 :: digs 18 k.toNat []
theorem digs_zero : ∀ (f : Nat) (acc : Str), digs f 0 acc = acc
  | 0, _ => rfl
  | f + 1, acc => by simp [digs]
theorem w32 (k : Int) (Kr Kp : C → List Ob → R) (hk : k < 1000000000000000000) (h : Kr (.d (.str (markT k))) []) : Wp T Tryd.prog tt 32 [.d (.int .i64 k)] [] Kr Kp := by
  refine go (k := 32) (own := true) (cap := .deep) Tryd.func32 (by kernel_rfl) ?_
  conv => whnf
  refine bsel_intro (b := decide (k ≤ 0)) (fun hb => ?_) (fun hb => ?_)
  · conv => whnf
    simpa [markT, of_decide_eq_true hb] using h
  · conv => whnf
    refine ⟨fun I hI => ?_⟩
    have hb : ¬ k ≤ 0 := of_decide_eq_false hb
    have key : ∀ (f n : Nat) (acc : Str), n < 10 ^ f → n < 1000000000000000000 → acc.length + f ≤ 100 → Kr (.d (.str (109 :: digs f n acc))) [] → I ⟨[(0, .d (.int .i64 (n : Int))), (3, .d (.str acc))], []⟩ := by
      intro f
      induction f with
      | zero =>
        intro n acc hn hn2 hl hk
        refine hI _ ?_
        conv => whnf
        refine bsel_intro (fun hb => ?_) (fun hb => ?_)
        · have := of_decide_eq_true hb
          simp at hn
          omega
        · conv => whnf
          refine ⟨?_, hk⟩
          simp [big]; omega
      | succ f ih =>
        intro n acc hn hn2 hl hk
        refine hI _ ?_
        conv => whnf
        refine bsel_intro (fun hb => ?_) (fun hb => ?_)
        · have hb := of_decide_eq_true hb
          conv => whnf
          refine ⟨by decide, ?_⟩
          conv => whnf
          refine ⟨?_, ?_⟩
          · simp [strOf, big]; omega
          · conv => whnf
            refine ⟨by decide, ?_⟩
            conv => whnf
            have hn0 : n ≠ 0 := by omega
            have e1 : (n : Int).tdiv 10 = ((n / 10 : Nat) : Int) := by rw [Int.tdiv_eq_ediv_of_nonneg (by omega)]; rfl
            have e2 : (n : Int).tmod 10 = ((n % 10 : Nat) : Int) := by rw [Int.tmod_eq_emod_of_nonneg (by omega)]; rfl
            refine eqI (ih (n / 10) (UInt8.ofNat (48 + n % 10) :: acc) (by rw [Nat.pow_succ] at hn; omega) (by omega) (by simp; omega) (by simpa [digs, hn0] using hk)) ?_
            rw [e1, e2, wrapN (by omega), wrapI (by omega) (by omega), wrapU8 (by omega) (by omega)]
            have e3 : (48 + ((n % 10 : Nat) : Int)).toNat = 48 + n % 10 := by omega
            simp only [strOf, List.map_cons, List.map_nil, List.getD_cons_zero, getI, e3, List.cons_append, List.nil_append]
        · have hb := of_decide_eq_false hb
          have hn0 : n = 0 := by omega
          subst hn0
          conv => whnf
          refine ⟨?_, ?_⟩
          · simp [big]; omega
          · rw [digs_zero] at hk
            exact hk
    have := key 18 k.toNat [] (by omega) (by omega) (by simp) (by simpa [markT, hb] using h)
    rw [show ((k.toNat : Nat) : Int) = k by omega] at this
    exact this
end Go.Proofs.SL
