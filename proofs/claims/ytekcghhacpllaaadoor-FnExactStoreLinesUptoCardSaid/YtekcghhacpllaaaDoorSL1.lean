/- Contracts of functions of this program, by the evaluator EN; part SL1. No conditions but those that each theorem states. -/
import Derived.Test.YtekcghhacpllaaaDoorET1
set_option linter.unusedVariables false
set_option linter.unusedSimpArgs false
set_option maxRecDepth 100000
set_option maxHeartbeats 8000000
namespace Go.Proofs.SL
open Go Go.Proofs Go.Proofs.EN Go.Proofs.VT
variable {T : Tabs}
abbrev Ver := Int × Int
def dV (p : Ver) : List D := [.int .i64 p.1, .int .i64 p.2]
def aV (p : Ver) : C := .agg [.d (.int .i64 p.1), .d (.int .i64 p.2)]
def dVs (vs : List Ver) : List (List D) := vs.map dV
def dCh (V : TypeId) (cs : List (List Ver)) : List (List D) := cs.map fun vs => [.list V (dVs vs)]
def dStr (ws : List Str) : List (List D) := ws.map fun w => [.str w]
theorem w95 (a b : Ver) (Kr Kp : C → List Ob → R) (h : Kr (.d (.bool (decide (a = b)))) []) : Wp T Tryd.prog tt 95 [aV a, aV b] [] Kr Kp := by
  refine go (k := 95) (own := true) (cap := .deep) Tryd.func95 (by kernel_rfl) ?_
  obtain ⟨a1, a2⟩ := a
  obtain ⟨b1, b2⟩ := b
  conv => whnf
  refine bsel_intro (b := !decide (a1 = b1)) (fun hb => ?_) (fun hb => ?_)
  · conv => whnf
    have : a1 ≠ b1 := by simpa using hb
    simpa [this] using h
  · have e1 : a1 = b1 := by simpa using hb
    conv => whnf
    refine bsel_intro (b := !decide (a2 = b2)) (fun hb => ?_) (fun hb => ?_)
    · conv => whnf
      have : a2 ≠ b2 := by simpa using hb
      simpa [this] using h
    · conv => whnf
      have : a2 = b2 := by simpa using hb
      simpa [this, e1] using h
theorem w59 (a b : List (Ver)) (Kr Kp : C → List Ob → R) (h : Kr (.d (.bool (decide (a = b)))) []) : Wp T Tryd.prog tt 59 [.d (.list 93 (dVs a)), .d (.list 93 (dVs b))] [] Kr Kp := by
  refine go (k := 59) (own := true) (cap := .deep) Tryd.func59 (by kernel_rfl) ?_
  conv => whnf
  intro ha
  conv => whnf
  intro hb
  conv => whnf
  refine bnot (p := ((dVs a).length : Int) = ((dVs b).length : Int)) (fun hb => ?_) (fun hb => ?_)
  · conv => whnf
    have hl : a.length ≠ b.length := fun e => hb (by simp [dVs, e])
    have : a ≠ b := fun e => hl (by rw [e])
    simpa [this] using h
  · conv => whnf
    refine ⟨fun I hI => ?_⟩
    have hl : a.length = b.length := by
      simp [dVs] at hb; omega
    have key : ∀ (n i : Nat), i + n = a.length → a.take i = b.take i → I ⟨[(0, .d (.list 93 (dVs a))), (1, .d (.list 93 (dVs b))), (5, .d (.int .i64 (i : Int)))], []⟩ := by
      intro n
      induction n with
      | zero =>
        intro i hi he
        refine hI _ ?_
        conv => whnf
        intro _
        conv => whnf
        refine bdec (fun hc => ?_) (fun hc => ?_)
        · simp [dVs] at hc; omega
        · conv => whnf
          have : a = b := by
            rw [show i = a.length by omega, List.take_of_length_le (Nat.le_refl _), List.take_of_length_le (by omega)] at he
            exact he
          simpa [this] using h
      | succ n ih =>
        intro i hi he
        refine hI _ ?_
        conv => whnf
        intro _
        conv => whnf
        refine bdec (fun hc => ?_) (fun hc => ?_)
        · conv => whnf
          refine .head _ rfl (by kernel_rfl) ?_
          conv => whnf
          have hia : i < a.length := by omega
          have hib : i < b.length := by omega
          refine ⟨natlt (by simpa [dVs] using hia), ?_⟩
          conv => whnf
          refine ⟨natlt (by simpa [dVs] using hib), ?_⟩
          conv => whnf
          refine wpArgs (xs' := [aV (a[i]), aV (b[i])]) ?_ (w95 _ _ _ _ ?_)
          · simp [dVs, dV, aV, CK.norm, getI, getS, getL, List.getD_eq_getElem?_getD, hia, hib]
          · conv => whnf
            refine bnot (fun he2 => ?_) (fun he2 => ?_)
            · conv => whnf
              have : a ≠ b := fun e => he2 (by subst e; rfl)
              simpa [this] using h
            · conv => whnf
              refine eqI (ih (i + 1) (by omega) ?_) ?_
              · rw [List.take_add_one, List.take_add_one, he]
                simp [hia, hib, he2]
              · rw [wrapS (by simp [dVs, big] at ha; omega)]
        · simp [dVs] at hc; omega
    exact key a.length 0 (by omega) rfl

theorem w30 (a b : List (List Ver)) (Kr Kp : C → List Ob → R) (h : Kr (.d (.bool (decide (a = b)))) []) : Wp T Tryd.prog tt 30 [.d (.list 91 (dCh 93 a)), .d (.list 91 (dCh 93 b))] [] Kr Kp := by
  refine go (k := 30) (own := true) (cap := .deep) Tryd.func30 (by kernel_rfl) ?_
  conv => whnf
  intro ha
  conv => whnf
  intro hb
  conv => whnf
  refine bnot (p := ((dCh 93 a).length : Int) = ((dCh 93 b).length : Int)) (fun hb => ?_) (fun hb => ?_)
  · conv => whnf
    have hl : a.length ≠ b.length := fun e => hb (by simp [dCh, e])
    have : a ≠ b := fun e => hl (by rw [e])
    simpa [this] using h
  · conv => whnf
    refine ⟨fun I hI => ?_⟩
    have hl : a.length = b.length := by
      simp [dCh] at hb; omega
    have key : ∀ (n i : Nat), i + n = a.length → a.take i = b.take i → I ⟨[(0, .d (.list 91 (dCh 93 a))), (1, .d (.list 91 (dCh 93 b))), (5, .d (.int .i64 (i : Int)))], []⟩ := by
      intro n
      induction n with
      | zero =>
        intro i hi he
        refine hI _ ?_
        conv => whnf
        intro _
        conv => whnf
        refine bdec (fun hc => ?_) (fun hc => ?_)
        · simp [dCh] at hc; omega
        · conv => whnf
          have : a = b := by
            rw [show i = a.length by omega, List.take_of_length_le (Nat.le_refl _), List.take_of_length_le (by omega)] at he
            exact he
          simpa [this] using h
      | succ n ih =>
        intro i hi he
        refine hI _ ?_
        conv => whnf
        intro _
        conv => whnf
        refine bdec (fun hc => ?_) (fun hc => ?_)
        · conv => whnf
          refine .head _ rfl (by kernel_rfl) ?_
          conv => whnf
          have hia : i < a.length := by omega
          have hib : i < b.length := by omega
          refine ⟨natlt (by simpa [dCh] using hia), ?_⟩
          conv => whnf
          refine ⟨natlt (by simpa [dCh] using hib), ?_⟩
          conv => whnf
          refine wpArgs (xs' := [.d (.list 93 (dVs (a[i]))), .d (.list 93 (dVs (b[i])))]) ?_ (w59 _ _ _ _ ?_)
          · simp [dCh, CK.norm, getI, getS, getL, List.getD_eq_getElem?_getD, hia, hib]
          · conv => whnf
            refine bnot (fun he2 => ?_) (fun he2 => ?_)
            · conv => whnf
              have : a ≠ b := fun e => he2 (by subst e; rfl)
              simpa [this] using h
            · conv => whnf
              refine eqI (ih (i + 1) (by omega) ?_) ?_
              · rw [List.take_add_one, List.take_add_one, he]
                simp [hia, hib, he2]
              · rw [wrapS (by simp [dCh, big] at ha; omega)]
        · simp [dCh] at hc; omega
    exact key a.length 0 (by omega) rfl

theorem w10 (a b : List (Str)) (Kr Kp : C → List Ob → R) (h : Kr (.d (.bool (decide (a = b)))) []) : Wp T Tryd.prog tt 10 [.d (.list 9 (dStr a)), .d (.list 9 (dStr b))] [] Kr Kp := by
  refine go (k := 10) (own := true) (cap := .deep) Tryd.func10 (by kernel_rfl) ?_
  conv => whnf
  intro ha
  conv => whnf
  intro hb
  conv => whnf
  refine bnot (p := ((dStr a).length : Int) = ((dStr b).length : Int)) (fun hb => ?_) (fun hb => ?_)
  · conv => whnf
    have hl : a.length ≠ b.length := fun e => hb (by simp [dStr, e])
    have : a ≠ b := fun e => hl (by rw [e])
    simpa [this] using h
  · conv => whnf
    refine ⟨fun I hI => ?_⟩
    have hl : a.length = b.length := by
      simp [dStr] at hb; omega
    have key : ∀ (n i : Nat), i + n = a.length → a.take i = b.take i → I ⟨[(0, .d (.list 9 (dStr a))), (1, .d (.list 9 (dStr b))), (5, .d (.int .i64 (i : Int)))], []⟩ := by
      intro n
      induction n with
      | zero =>
        intro i hi he
        refine hI _ ?_
        conv => whnf
        intro _
        conv => whnf
        refine bdec (fun hc => ?_) (fun hc => ?_)
        · simp [dStr] at hc; omega
        · conv => whnf
          have : a = b := by
            rw [show i = a.length by omega, List.take_of_length_le (Nat.le_refl _), List.take_of_length_le (by omega)] at he
            exact he
          simpa [this] using h
      | succ n ih =>
        intro i hi he
        refine hI _ ?_
        conv => whnf
        intro _
        conv => whnf
        refine bdec (fun hc => ?_) (fun hc => ?_)
        · conv => whnf
          refine .head _ rfl (by kernel_rfl) ?_
          conv => whnf
          have hia : i < a.length := by omega
          have hib : i < b.length := by omega
          refine ⟨natlt (by simpa [dStr] using hia), ?_⟩
          conv => whnf
          refine ⟨natlt (by simpa [dStr] using hib), ?_⟩
          conv => whnf
          refine bnot (fun he2 => ?_) (fun he2 => ?_)
          · conv => whnf
            have : a ≠ b := fun e => he2 (by subst e; rfl)
            simpa [this] using h
          · have he2 : a[i] = b[i] := by simpa [dStr, CK.norm, getI, getS, List.getD_eq_getElem?_getD, hia, hib] using he2
            conv => whnf
            refine eqI (ih (i + 1) (by omega) ?_) ?_
            · rw [List.take_add_one, List.take_add_one, he]
              simp [hia, hib, he2]
            · rw [wrapS (by simp [dStr, big] at ha; omega)]
        · simp [dStr] at hc; omega
    exact key a.length 0 (by omega) rfl


def aSt (L : TypeId) (V : TypeId) (s : List (List Ver) × Int) : C := .agg [.d (.list L (dCh V s.1)), .d (.int .i64 s.2)]
theorem w11 (a b : List (List Ver) × Int) (Kr Kp : C → List Ob → R) (h : Kr (.d (.bool (decide (a = b)))) []) : Wp T Tryd.prog tt 11 [aSt 91 93 a, aSt 91 93 b] [] Kr Kp := by
  refine go (k := 11) (own := true) (cap := .deep) Tryd.func11 (by kernel_rfl) ?_
  obtain ⟨a1, a2⟩ := a
  obtain ⟨b1, b2⟩ := b
  conv => whnf
  refine wpArgs (xs' := [.d (.list 91 (dCh 93 a1)), .d (.list 91 (dCh 93 b1))]) ?_ (w30 _ _ _ _ ?_)
  · rfl
  conv => whnf
  refine bnot (fun h1 => ?_) (fun h1 => ?_)
  · conv => whnf
    simpa [h1] using h
  conv => whnf
  refine bnot (p := a2 = b2) (fun h2 => ?_) (fun h2 => ?_)
  · conv => whnf
    simpa [h2] using h
  conv => whnf
  simpa [h1, h2] using h
end Go.Proofs.SL
