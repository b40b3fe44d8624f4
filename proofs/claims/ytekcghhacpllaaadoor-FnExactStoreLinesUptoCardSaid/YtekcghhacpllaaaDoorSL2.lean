/- Contracts of functions of this program, by the evaluator EN; part SL2. No conditions but those that each theorem states. -/
import Derived.Test.YtekcghhacpllaaaDoorSL1
set_option linter.unusedVariables false
set_option linter.unusedSimpArgs false
set_option maxRecDepth 100000
set_option maxHeartbeats 8000000
namespace Go.Proofs.SL
open Go Go.Proofs Go.Proofs.EN Go.Proofs.VT
variable {T : Tabs}
/-! ### How much there is -/
def szS {α : Type} (vs : List α) (left : Int) : Int := if left - (vs.length : Int) < 0 then -1 else left - (vs.length : Int)
theorem w48 (vs : List Ver) (left : Int) (Kr Kp : C → List Ob → R) (hl : 0 ≤ left ∧ left ≤ 1048576) (h : Kr (.d (.int .i64 (szS vs left))) []) : Wp T Tryd.prog tt 48 [.d (.list 136 (dVs vs)), .d (.int .i64 left)] [] Kr Kp := by
  refine go (k := 48) (own := true) (cap := .deep) Tryd.func48 (by kernel_rfl) ?_
  conv => whnf
  intro hb
  conv => whnf
  have hw : IntKind.wrap .i64 (left - ((dVs vs).length : Int)) = left - (vs.length : Int) := by
    rw [wrapI (by simp [dVs, big] at hb ⊢; omega) (by simp [dVs, big] at hb ⊢; omega)]; simp [dVs]
  refine bdec (fun h1 => ?_) (fun h1 => ?_)
  · conv => whnf
    rw [hw] at h1
    simpa [szS, h1] using h
  · conv => whnf
    rw [hw] at h1 ⊢
    simpa [szS, h1] using h
theorem drop_cons {α : Type} {xs r : List α} {x : α} {i : Nat} (h : xs.drop i = x :: r) : ∃ hi : i < xs.length, xs[i] = x ∧ xs.drop (i + 1) = r := by
  have hi : i < xs.length := by
    rcases Nat.lt_or_ge i xs.length with h' | h'
    · exact h'
    · rw [List.drop_of_length_le h'] at h; cases h
  rw [List.drop_eq_getElem_cons hi] at h
  simp only [List.cons.injEq] at h
  exact ⟨hi, h⟩
theorem drop_nil {α : Type} {xs : List α} {i : Nat} (h : xs.drop i = []) : xs.length ≤ i := by simpa using h
/-- Chain by chain. -/
def szSS {α : Type} : List (List α) → Int → Int
  | [], left => left
  | vs :: r, left => if szS vs left < 0 then -1 else szSS r (szS vs left)
theorem w24 (cs : List (List Ver)) (left : Int) (Kr Kp : C → List Ob → R) (hl : 0 ≤ left ∧ left ≤ 1048576) (h : Kr (.d (.int .i64 (if szS cs left < 0 then -1 else szSS cs (szS cs left)))) []) : Wp T Tryd.prog tt 24 [.d (.list 89 (dCh 136 cs)), .d (.int .i64 left)] [] Kr Kp := by
  refine go (k := 24) (own := true) (cap := .deep) Tryd.func24 (by kernel_rfl) ?_
  conv => whnf
  intro hb
  conv => whnf
  have hw : IntKind.wrap .i64 (left - ((dCh 136 cs).length : Int)) = left - (cs.length : Int) := by
    rw [wrapI (by simp [dCh, big] at hb ⊢; omega) (by simp [dCh, big] at hb ⊢; omega)]; simp [dCh]
  refine bdec (fun h1 => ?_) (fun h1 => ?_)
  · conv => whnf
    rw [hw] at h1
    simpa [szS, h1] using h
  · conv => whnf
    rw [hw] at h1
    refine ⟨fun I hI => ?_⟩
    have key : ∀ (r : List (List Ver)) (i : Nat) (left : Int), cs.drop i = r → 0 ≤ left → left ≤ 1048576 → Kr (.d (.int .i64 (szSS r left))) [] → I ⟨[(0, .d (.list 89 (dCh 136 cs))), (1, .d (.int .i64 left)), (5, .d (.int .i64 (i : Int)))], []⟩ := by
      intro r
      induction r with
      | nil =>
        intro i left hr h0 hm hk
        have hi := drop_nil hr
        refine hI _ ?_
        conv => whnf
        intro _
        conv => whnf
        refine bdec (fun hc => ?_) (fun hc => ?_)
        · simp [dCh] at hc; omega
        · conv => whnf
          exact hk
      | cons vs r ih =>
        intro i left hr h0 hm hk
        obtain ⟨hi, he, hd⟩ := drop_cons hr
        refine hI _ ?_
        conv => whnf
        intro _
        conv => whnf
        refine bdec (fun hc => ?_) (fun hc => ?_)
        · conv => whnf
          refine ⟨natlt (by simpa [dCh] using hi), ?_⟩
          conv => whnf
          refine wpArgs (xs' := [.d (.list 136 (dVs vs)), .d (.int .i64 left)]) ?_ (w48 _ _ _ _ ⟨h0, hm⟩ ?_)
          · simp [dCh, CK.norm, getL, List.getD_eq_getElem?_getD, hi, he]
          conv => whnf
          have hle : szS vs left ≤ 1048576 := by unfold szS; split <;> omega
          refine bdec (fun h2 => ?_) (fun h2 => ?_)
          · conv => whnf
            simpa [szSS, h2] using hk
          · conv => whnf
            refine eqI (ih (i + 1) _ hd (by omega) hle (by simpa [szSS, h2] using hk)) ?_
            rw [wrapS (by simp [dCh, big] at hb; omega)]
        · simp [dCh] at hc; omega
    have hs : ¬ szS cs left < 0 := by simp only [szS, if_neg h1]; exact h1
    rw [if_neg hs] at h
    refine eqI (key cs 0 (szS cs left) rfl (by omega) (by unfold szS; split <;> omega) h) ?_
    rw [hw]
    simp [szS, h1]
def szSt (s : List (List Ver) × Int) (left : Int) : Int := if szS s.1 left < 0 then -1 else szSS s.1 (szS s.1 left)
theorem w6 (s : List (List Ver) × Int) (left : Int) (Kr Kp : C → List Ob → R) (hl : 0 ≤ left ∧ left ≤ 1048576) (h : Kr (.d (.int .i64 (if szSt s left < 0 then -1 else szSt s left))) []) : Wp T Tryd.prog tt 6 [aSt 89 136 s, .d (.int .i64 left)] [] Kr Kp := by
  refine go (k := 6) (own := true) (cap := .deep) Tryd.func6 (by kernel_rfl) ?_
  obtain ⟨s1, s2⟩ := s
  conv => whnf
  refine wpArgs (xs' := [.d (.list 89 (dCh 136 s1)), .d (.int .i64 left)]) ?_ (w24 _ _ _ _ hl ?_)
  · rfl
  conv => whnf
  refine bdec (p := szSt (s1, s2) left < 0) (fun h2 => ?_) (fun h2 => ?_)
  · conv => whnf
    simpa [h2] using h
  · conv => whnf
    rw [if_neg h2] at h
    exact h
end Go.Proofs.SL
