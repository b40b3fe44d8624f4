/- Contracts of functions of this program, by the evaluator EN; part SL3. No conditions but those that each theorem states. -/
import Derived.Test.YtekcghhacpllaaaDoorSL2
set_option linter.unusedVariables false
set_option linter.unusedSimpArgs false
set_option maxRecDepth 100000
set_option maxHeartbeats 8000000
namespace Go.Proofs.SL
open Go Go.Proofs Go.Proofs.EN Go.Proofs.VT
variable {T : Tabs}
/-! ### Copies -/
theorem fill_set {α : Type} (A : List α) (z v : α) (m i : Nat) (hi : A.length = i) : (A ++ List.replicate (m + 1) z).set i v = (A ++ [v]) ++ List.replicate m z := by
  subst hi
  rw [List.set_append_right _ _ (Nat.le_refl _), Nat.sub_self]
  simp [List.replicate_succ]
theorem fill_get {α : Type} (A : List α) (z d : α) (m i : Nat) (hi : A.length = i) : (A ++ List.replicate (m + 1) z).getD i d = z := by
  subst hi
  simp [List.getD_eq_getElem?_getD]
theorem w91 (v : Ver) (Kr Kp : C → List Ob → R) (h : Kr (aV v) []) : Wp T Tryd.prog tt 91 [aV v] [] Kr Kp := by
  refine go (k := 91) (own := true) (cap := .deep) Tryd.func91 (by kernel_rfl) ?_
  conv => whnf
  exact h
theorem w53 (vs : List Ver) (Kr Kp : C → List Ob → R) (h : ∀ ver, Kr (.row 0) [.row 93 .deep ver (dVs vs)]) : Wp T Tryd.prog tt 53 [.d (.list 136 (dVs vs))] [] Kr Kp := by
  refine go (k := 53) (own := true) (cap := .deep) Tryd.func53 (by kernel_rfl) ?_
  conv => whnf
  intro hb
  conv => whnf
  refine ⟨⟨by omega, by omega, by simp [dVs, big] at hb ⊢; omega⟩, ?_⟩
  conv => whnf
  refine ⟨fun I hI => ?_⟩
  have key : ∀ (r : List Ver) (i : Nat), vs.drop i = r → I ⟨[(0, .d (.list 136 (dVs vs))), (3, .row 0), (4, .d (.int .i64 (i : Int)))], [.row 93 .deep 0 (dVs (vs.take i) ++ List.replicate r.length [.int .i64 0, .int .i64 0])]⟩ := by
    intro r
    induction r with
    | nil =>
      intro i hr
      have hi := drop_nil hr
      refine hI _ ?_
      conv => whnf
      intro _
      conv => whnf
      refine bdec (fun hc => ?_) (fun hc => ?_)
      · simp [dVs] at hc; omega
      · conv => whnf
        have := h 0
        rw [List.take_of_length_le hi]
        simpa using this
    | cons v r ih =>
      intro i hr
      obtain ⟨hi, he, hd⟩ := drop_cons hr
      refine hI _ ?_
      conv => whnf
      intro _
      conv => whnf
      refine bdec (fun hc => ?_) (fun hc => ?_)
      · conv => whnf
        refine ⟨natlt (by simpa [dVs] using hi), ?_⟩
        conv => whnf
        refine wpArgs (xs' := [aV v]) ?_ (w91 _ _ _ ?_)
        · simp [dVs, dV, aV, CK.norm, getI, List.getD_eq_getElem?_getD, hi, he]
        conv => whnf
        have hA : (dVs (vs.take i)).length = i := by simp [dVs]; omega
        refine ⟨natlt (by simp [dVs]; omega), ?_⟩
        conv => whnf
        refine ⟨by simp [dVs]; omega, ?_⟩
        conv => whnf
        refine eqI (ih (i + 1) hd) ?_
        rw [wrapS (by simp [dVs, big] at hb; omega), Int.toNat_natCast, List.length_cons, fill_get _ _ _ _ _ hA, fill_set _ _ _ _ _ hA, List.take_add_one]
        simp [setRun, dVs, dV, hi, he]
      · simp [dVs] at hc; omega
  refine eqI (key vs 0 rfl) ?_
  simp [dVs, CK.zero]
theorem w27 (cs : List (List Ver)) (Kr Kp : C → List Ob → R) (h : ∀ ver, Kr (.row 0) [.row 91 .deep ver (dCh 93 cs)]) : Wp T Tryd.prog tt 27 [.d (.list 89 (dCh 136 cs))] [] Kr Kp := by
  refine go (k := 27) (own := true) (cap := .deep) Tryd.func27 (by kernel_rfl) ?_
  conv => whnf
  intro hb
  conv => whnf
  refine ⟨⟨by omega, by omega, by simp [dCh, big] at hb ⊢; omega⟩, ?_⟩
  conv => whnf
  refine ⟨fun I hI => ?_⟩
  have key : ∀ (r : List (List Ver)) (i ver : Nat), cs.drop i = r → I ⟨[(0, .d (.list 89 (dCh 136 cs))), (3, .row 0), (4, .d (.int .i64 (i : Int)))], [.row 91 .deep ver (dCh 93 (cs.take i) ++ List.replicate r.length [.list 93 []])]⟩ := by
    intro r
    induction r with
    | nil =>
      intro i ver hr
      have hi := drop_nil hr
      refine hI _ ?_
      conv => whnf
      intro _
      conv => whnf
      refine bdec (fun hc => ?_) (fun hc => ?_)
      · simp [dCh] at hc; omega
      · conv => whnf
        have := h ver
        rw [List.take_of_length_le hi]
        simpa using this
    | cons vs r ih =>
      intro i ver hr
      obtain ⟨hi, he, hd⟩ := drop_cons hr
      refine hI _ ?_
      conv => whnf
      intro _
      conv => whnf
      refine bdec (fun hc => ?_) (fun hc => ?_)
      · conv => whnf
        refine ⟨natlt (by simpa [dCh] using hi), ?_⟩
        conv => whnf
        refine wpArgs (xs' := [.d (.list 136 (dVs vs))]) ?_ (w53 _ _ _ fun ver1 => ?_)
        · simp [dCh, CK.norm, getL, List.getD_eq_getElem?_getD, hi, he]
        conv => whnf
        have hA : (dCh 93 (cs.take i)).length = i := by simp [dCh]; omega
        refine ⟨natlt (by simp [dCh]; omega), ?_⟩
        conv => whnf
        refine ⟨by simp [dCh]; omega, ?_⟩
        conv => whnf
        refine eqI (ih (i + 1) (ver + 1) hd) ?_
        rw [wrapS (by simp [dCh, big] at hb; omega), Int.toNat_natCast, List.length_cons, fill_get _ _ _ _ _ hA, fill_set _ _ _ _ _ hA, List.take_add_one]
        simp [setRun, dCh, hi, he]
      · simp [dCh] at hc; omega
  refine eqI (key cs 0 0 rfl) ?_
  simp [dCh, CK.zero]
theorem w8 (s : List (List Ver) × Int) (Kr Kp : C → List Ob → R) (h : ∀ ver, Kr (.agg [.row 0, .d (.int .i64 s.2)]) [.row 91 .deep ver (dCh 93 s.1)]) : Wp T Tryd.prog tt 8 [aSt 89 136 s] [] Kr Kp := by
  refine go (k := 8) (own := true) (cap := .deep) Tryd.func8 (by kernel_rfl) ?_
  obtain ⟨s1, s2⟩ := s
  conv => whnf
  refine wpArgs (xs' := [.d (.list 89 (dCh 136 s1))]) ?_ (w27 _ _ _ fun ver => ?_)
  · rfl
  conv => whnf
  exact h ver
end Go.Proofs.SL
