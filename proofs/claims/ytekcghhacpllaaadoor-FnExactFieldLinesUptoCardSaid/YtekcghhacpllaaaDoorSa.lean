/- Contracts of functions of this program, by the evaluator EN; part Sa. No conditions but those that each theorem states. -/
import Derived.Test.YtekcghhacpllaaaDoorET1
set_option linter.unusedVariables false
set_option linter.unusedSimpArgs false
set_option maxRecDepth 100000
set_option maxHeartbeats 8000000
namespace Go.Proofs.SL
open Go Go.Proofs Go.Proofs.EN Go.Proofs.VT
variable {T : Tabs}
abbrev Ver := Int × Int
def dV (p : Ver) : List D := [.int .i64 p.1, .int .i64 p.2]
def aV (p : Ver) : C := .agg [.d (.int .i64 p.1), .d (.int .i64 p.2)]
def dVs (vs : List Ver) : List (List D) := vs.map dV
def dCh (V : TypeId) (cs : List (List Ver)) : List (List D) := cs.map fun vs => [.list V (dVs vs)]
def dStr (ws : List Str) : List (List D) := ws.map fun w => [.str w]
theorem w95 (a b : Ver) (Kr Kp : C → List Ob → R) (h : Kr (.d (.bool (decide (a = b)))) []) : Wp T Tryd.prog tt 95 [aV a, aV b] [] Kr Kp := by
  refine go (k := 95) (own := true) (cap := .deep) Tryd.func95 (by kernel_rfl) ?_
  obtain ⟨a1, a2⟩ := a
  obtain ⟨b1, b2⟩ := b
  conv => whnf
  refine bsel_intro (b := !decide (a1 = b1)) (fun hb => ?_) (fun hb => ?_)
  · conv => whnf
    have : a1 ≠ b1 := by simpa using hb
    simpa [this] using h
  · have e1 : a1 = b1 := by simpa using hb
    conv => whnf
    refine bsel_intro (b := !decide (a2 = b2)) (fun hb => ?_) (fun hb => ?_)
    · conv => whnf
      have : a2 ≠ b2 := by simpa using hb
      simpa [this] using h
    · conv => whnf
      have : a2 = b2 := by simpa using hb
      simpa [this, e1] using h
theorem w59 (a b : List (Ver)) (Kr Kp : C → List Ob → R) (h : Kr (.d (.bool (decide (a = b)))) []) : Wp T Tryd.prog tt 59 [.d (.list 93 (dVs a)), .d (.list 93 (dVs b))] [] Kr Kp := by
  refine go (k := 59) (own := true) (cap := .deep) Tryd.func59 (by kernel_rfl) ?_
  conv => whnf
  intro ha
  conv => whnf
  intro hb
  conv => whnf
  refine bnot (p := ((dVs a).length : Int) = ((dVs b).length : Int)) (fun hb => ?_) (fun hb => ?_)
  · conv => whnf
    have hl : a.length ≠ b.length := fun e => hb (by simp [dVs, e])
    have : a ≠ b := fun e => hl (by rw [e])
    simpa [this] using h
  · conv => whnf
    refine ⟨fun I hI => ?_⟩
    have hl : a.length = b.length := by
      simp [dVs] at hb; omega
    have key : ∀ (n i : Nat), i + n = a.length → a.take i = b.take i → I ⟨[(0, .d (.list 93 (dVs a))), (1, .d (.list 93 (dVs b))), (5, .d (.int .i64 (i : Int)))], []⟩ := by
      intro n
      induction n with
      | zero =>
        intro i hi he
        refine hI _ ?_
        conv => whnf
        intro _
        conv => whnf
        refine bdec (fun hc => ?_) (fun hc => ?_)
        · simp [dVs] at hc; omega
        · conv => whnf
          have : a = b := by
            rw [show i = a.length by omega, List.take_of_length_le (Nat.le_refl _), List.take_of_length_le (by omega)] at he
            exact he
          simpa [this] using h
      | succ n ih =>
        intro i hi he
        refine hI _ ?_
        conv => whnf
        intro _
        conv => whnf
        refine bdec (fun hc => ?_) (fun hc => ?_)
        · conv => whnf
          refine .head _ rfl (by kernel_rfl) ?_
          conv => whnf
          have hia : i < a.length := by omega
          have hib : i < b.length := by omega
          refine ⟨natlt (by simpa [dVs] using hia), ?_⟩
          conv => whnf
          refine ⟨natlt (by simpa [dVs] using hib), ?_⟩
          conv => whnf
          refine wpArgs (xs' := [aV (a[i]), aV (b[i])]) ?_ (w95 _ _ _ _ ?_)
          · simp [dVs, dV, aV, CK.norm, getI, getS, getL, List.getD_eq_getElem?_getD, hia, hib]
          · conv => whnf
            refine bnot (fun he2 => ?_) (fun he2 => ?_)
            · conv => whnf
              have : a ≠ b := fun e => he2 (by subst e; rfl)
              simpa [this] using h
            · conv => whnf
              refine eqI (ih (i + 1) (by omega) ?_) ?_
              · rw [List.take_add_one, List.take_add_one, he]
                simp [hia, hib, he2]
              · rw [wrapS (by simp [dVs, big] at ha; omega)]
        · simp [dVs] at hc; omega
    exact key a.length 0 (by omega) rfl

theorem w30 (a b : List (List Ver)) (Kr Kp : C → List Ob → R) (h : Kr (.d (.bool (decide (a = b)))) []) : Wp T Tryd.prog tt 30 [.d (.list 91 (dCh 93 a)), .d (.list 91 (dCh 93 b))] [] Kr Kp := by
  refine go (k := 30) (own := true) (cap := .deep) Tryd.func30 (by kernel_rfl) ?_
  conv => whnf
  intro ha
  conv => whnf
  intro hb
  conv => whnf
  refine bnot (p := ((dCh 93 a).length : Int) = ((dCh 93 b).length : Int)) (fun hb => ?_) (fun hb => ?_)
  · conv => whnf
    have hl : a.length ≠ b.length := fun e => hb (by simp [dCh, e])
    have : a ≠ b := fun e => hl (by rw [e])
    simpa [this] using h
  · conv => whnf
    refine ⟨fun I hI => ?_⟩
    have hl : a.length = b.length := by
      simp [dCh] at hb; omega
    have key : ∀ (n i : Nat), i + n = a.length → a.take i = b.take i → I ⟨[(0, .d (.list 91 (dCh 93 a))), (1, .d (.list 91 (dCh 93 b))), (5, .d (.int .i64 (i : Int)))], []⟩ := by
      intro n
      induction n with
      | zero =>
        intro i hi he
        refine hI _ ?_
        conv => whnf
        intro _
        conv => whnf
        refine bdec (fun hc => ?_) (fun hc => ?_)
        · simp [dCh] at hc; omega
        · conv => whnf
          have : a = b := by
            rw [show i = a.length by omega, List.take_of_length_le (Nat.le_refl _), List.take_of_length_le (by omega)] at he
            exact he
          simpa [this] using h
      | succ n ih =>
        intro i hi he
        refine hI _ ?_
        conv => whnf
        intro _
        conv => whnf
        refine bdec (fun hc => ?_) (fun hc => ?_)
        · conv => whnf
          refine .head _ rfl (by kernel_rfl) ?_
          conv => whnf
          have hia : i < a.length := by omega
          have hib : i < b.length := by omega
          refine ⟨natlt (by simpa [dCh] using hia), ?_⟩
          conv => whnf
          refine ⟨natlt (by simpa [dCh] using hib), ?_⟩
          conv => whnf
          refine wpArgs (xs' := [.d (.list 93 (dVs (a[i]))), .d (.list 93 (dVs (b[i])))]) ?_ (w59 _ _ _ _ ?_)
          · simp [dCh, CK.norm, getI, getS, getL, List.getD_eq_getElem?_getD, hia, hib]
          · conv => whnf
            refine bnot (fun he2 => ?_) (fun he2 => ?_)
            · conv => whnf
              have : a ≠ b := fun e => he2 (by subst e; rfl)
              simpa [this] using h
            · conv => whnf
              refine eqI (ih (i + 1) (by omega) ?_) ?_
              · rw [List.take_add_one, List.take_add_one, he]
                simp [hia, hib, he2]
              · rw [wrapS (by simp [dCh, big] at ha; omega)]
        · simp [dCh] at hc; omega
    exact key a.length 0 (by omega) rfl

theorem w10 (a b : List (Str)) (Kr Kp : C → List Ob → R) (h : Kr (.d (.bool (decide (a = b)))) []) : Wp T Tryd.prog tt 10 [.d (.list 9 (dStr a)), .d (.list 9 (dStr b))] [] Kr Kp := by
  refine go (k := 10) (own := true) (cap := .deep) Tryd.func10 (by kernel_rfl) ?_
  conv => whnf
  intro ha
  conv => whnf
  intro hb
  conv => whnf
  refine bnot (p := ((dStr a).length : Int) = ((dStr b).length : Int)) (fun hb => ?_) (fun hb => ?_)
  · conv => whnf
    have hl : a.length ≠ b.length := fun e => hb (by simp [dStr, e])
    have : a ≠ b := fun e => hl (by rw [e])
    simpa [this] using h
  · conv => whnf
    refine ⟨fun I hI => ?_⟩
    have hl : a.length = b.length := by
      simp [dStr] at hb; omega
    have key : ∀ (n i : Nat), i + n = a.length → a.take i = b.take i → I ⟨[(0, .d (.list 9 (dStr a))), (1, .d (.list 9 (dStr b))), (5, .d (.int .i64 (i : Int)))], []⟩ := by
      intro n
      induction n with
      | zero =>
        intro i hi he
        refine hI _ ?_
        conv => whnf
        intro _
        conv => whnf
        refine bdec (fun hc => ?_) (fun hc => ?_)
        · simp [dStr] at hc; omega
        · conv => whnf
          have : a = b := by
            rw [show i = a.length by omega, List.take_of_length_le (Nat.le_refl _), List.take_of_length_le (by omega)] at he
            exact he
          simpa [this] using h
      | succ n ih =>
        intro i hi he
        refine hI _ ?_
        conv => whnf
        intro _
        conv => whnf
        refine bdec (fun hc => ?_) (fun hc => ?_)
        · conv => whnf
          refine .head _ rfl (by kernel_rfl) ?_
          conv => whnf
          have hia : i < a.length := by omega
          have hib : i < b.length := by omega
          refine ⟨natlt (by simpa [dStr] using hia), ?_⟩
          conv => whnf
          refine ⟨natlt (by simpa [dStr] using hib), ?_⟩
          conv => whnf
          refine bnot (fun he2 => ?_) (fun he2 => ?_)
          · conv => whnf
            have : a ≠ b := fun e => he2 (by subst e; rfl)
            simpa [this] using h
          · have he2 : a[i] = b[i] := by simpa [dStr, CK.norm, getI, getS, List.getD_eq_getElem?_getD, hia, hib] using he2
            conv => whnf
            refine eqI (ih (i + 1) (by omega) ?_) ?_
            · rw [List.take_add_one, List.take_add_one, he]
              simp [hia, hib, he2]
            · rw [wrapS (by simp [dStr, big] at ha; omega)]
        · simp [dStr] at hc; omega
    exact key a.length 0 (by omega) rfl


def aSt (L : TypeId) (V : TypeId) (s : List (List Ver) × Int) : C := .agg [.d (.list L (dCh V s.1)), .d (.int .i64 s.2)]
theorem w11 (a b : List (List Ver) × Int) (Kr Kp : C → List Ob → R) (h : Kr (.d (.bool (decide (a = b)))) []) : Wp T Tryd.prog tt 11 [aSt 91 93 a, aSt 91 93 b] [] Kr Kp := by
  refine go (k := 11) (own := true) (cap := .deep) Tryd.func11 (by kernel_rfl) ?_
  obtain ⟨a1, a2⟩ := a
  obtain ⟨b1, b2⟩ := b
  conv => whnf
  refine wpArgs (xs' := [.d (.list 91 (dCh 93 a1)), .d (.list 91 (dCh 93 b1))]) ?_ (w30 _ _ _ _ ?_)
  · rfl
  conv => whnf
  refine bnot (fun h1 => ?_) (fun h1 => ?_)
  · conv => whnf
    simpa [h1] using h
  conv => whnf
  refine bnot (p := a2 = b2) (fun h2 => ?_) (fun h2 => ?_)
  · conv => whnf
    simpa [h2] using h
  conv => whnf
  simpa [h1, h2] using h
end Go.Proofs.SL
set_option linter.unusedVariables false
set_option linter.unusedSimpArgs false
set_option maxRecDepth 100000
set_option maxHeartbeats 8000000
namespace Go.Proofs.SL
open Go Go.Proofs Go.Proofs.EN Go.Proofs.VT
variable {T : Tabs}
/-! ### How much there is -/
def szS {α : Type} (vs : List α) (left : Int) : Int := if left - (vs.length : Int) < 0 then -1 else left - (vs.length : Int)
theorem w48 (vs : List Ver) (left : Int) (Kr Kp : C → List Ob → R) (hl : 0 ≤ left ∧ left ≤ 1048576) (h : Kr (.d (.int .i64 (szS vs left))) []) : Wp T Tryd.prog tt 48 [.d (.list 136 (dVs vs)), .d (.int .i64 left)] [] Kr Kp := by
  refine go (k := 48) (own := true) (cap := .deep) Tryd.func48 (by kernel_rfl) ?_
  conv => whnf
  intro hb
  conv => whnf
  have hw : IntKind.wrap .i64 (left - ((dVs vs).length : Int)) = left - (vs.length : Int) := by
    rw [wrapI (by simp [dVs, big] at hb ⊢; omega) (by simp [dVs, big] at hb ⊢; omega)]; simp [dVs]
  refine bdec (fun h1 => ?_) (fun h1 => ?_)
  · conv => whnf
    rw [hw] at h1
    simpa [szS, h1] using h
  · conv => whnf
    rw [hw] at h1 ⊢
    simpa [szS, h1] using h
theorem drop_cons {α : Type} {xs r : List α} {x : α} {i : Nat} (h : xs.drop i = x :: r) : ∃ hi : i < xs.length, xs[i] = x ∧ xs.drop (i + 1) = r := by
  have hi : i < xs.length := by
    rcases Nat.lt_or_ge i xs.length with h' | h'
    · exact h'
    · rw [List.drop_of_length_le h'] at h; cases h
  rw [List.drop_eq_getElem_cons hi] at h
  simp only [List.cons.injEq] at h
  exact ⟨hi, h⟩
theorem drop_nil {α : Type} {xs : List α} {i : Nat} (h : xs.drop i = []) : xs.length ≤ i := by simpa using h
/-- Chain by chain. -/
def szSS {α : Type} : List (List α) → Int → Int
  | [], left => left
  | vs :: r, left => if szS vs left < 0 then -1 else szSS r (szS vs left)
theorem w24 (cs : List (List Ver)) (left : Int) (Kr Kp : C → List Ob → R) (hl : 0 ≤ left ∧ left ≤ 1048576) (h : Kr (.d (.int .i64 (if szS cs left < 0 then -1 else szSS cs (szS cs left)))) []) : Wp T Tryd.prog tt 24 [.d (.list 89 (dCh 136 cs)), .d (.int .i64 left)] [] Kr Kp := by
  refine go (k := 24) (own := true) (cap := .deep) Tryd.func24 (by kernel_rfl) ?_
  conv => whnf
  intro hb
  conv => whnf
  have hw : IntKind.wrap .i64 (left - ((dCh 136 cs).length : Int)) = left - (cs.length : Int) := by
    rw [wrapI (by simp [dCh, big] at hb ⊢; omega) (by simp [dCh, big] at hb ⊢; omega)]; simp [dCh]
  refine bdec (fun h1 => ?_) (fun h1 => ?_)
  · conv => whnf
    rw [hw] at h1
    simpa [szS, h1] using h
  · conv => whnf
    rw [hw] at h1
    refine ⟨fun I hI => ?_⟩
    have key : ∀ (r : List (List Ver)) (i : Nat) (left : Int), cs.drop i = r → 0 ≤ left → left ≤ 1048576 → Kr (.d (.int .i64 (szSS r left))) [] → I ⟨[(0, .d (.list 89 (dCh 136 cs))), (1, .d (.int .i64 left)), (5, .d (.int .i64 (i : Int)))], []⟩ := by
      intro r
      induction r with
      | nil =>
        intro i left hr h0 hm hk
        have hi := drop_nil hr
        refine hI _ ?_
        conv => whnf
        intro _
        conv => whnf
        refine bdec (fun hc => ?_) (fun hc => ?_)
        · simp [dCh] at hc; omega
        · conv => whnf
          exact hk
      | cons vs r ih =>
        intro i left hr h0 hm hk
        obtain ⟨hi, he, hd⟩ := drop_cons hr
        refine hI _ ?_
        conv => whnf
        intro _
        conv => whnf
        refine bdec (fun hc => ?_) (fun hc => ?_)
        · conv => whnf
          refine ⟨natlt (by simpa [dCh] using hi), ?_⟩
          conv => whnf
          refine wpArgs (xs' := [.d (.list 136 (dVs vs)), .d (.int .i64 left)]) ?_ (w48 _ _ _ _ ⟨h0, hm⟩ ?_)
          · simp [dCh, CK.norm, getL, List.getD_eq_getElem?_getD, hi, he]
          conv => whnf
          have hle : szS vs left ≤ 1048576 := by unfold szS; split <;> omega
          refine bdec (fun h2 => ?_) (fun h2 => ?_)
          · conv => whnf
            simpa [szSS, h2] using hk
          · conv => whnf
            refine eqI (ih (i + 1) _ hd (by omega) hle (by simpa [szSS, h2] using hk)) ?_
            rw [wrapS (by simp [dCh, big] at hb; omega)]
        · simp [dCh] at hc; omega
    have hs : ¬ szS cs left < 0 := by simp only [szS, if_neg h1]; exact h1
    rw [if_neg hs] at h
    refine eqI (key cs 0 (szS cs left) rfl (by omega) (by unfold szS; split <;> omega) h) ?_
    rw [hw]
    simp [szS, h1]
def szSt (s : List (List Ver) × Int) (left : Int) : Int := if szS s.1 left < 0 then -1 else szSS s.1 (szS s.1 left)
theorem w6 (s : List (List Ver) × Int) (left : Int) (Kr Kp : C → List Ob → R) (hl : 0 ≤ left ∧ left ≤ 1048576) (h : Kr (.d (.int .i64 (if szSt s left < 0 then -1 else szSt s left))) []) : Wp T Tryd.prog tt 6 [aSt 89 136 s, .d (.int .i64 left)] [] Kr Kp := by
  refine go (k := 6) (own := true) (cap := .deep) Tryd.func6 (by kernel_rfl) ?_
  obtain ⟨s1, s2⟩ := s
  conv => whnf
  refine wpArgs (xs' := [.d (.list 89 (dCh 136 s1)), .d (.int .i64 left)]) ?_ (w24 _ _ _ _ hl ?_)
  · rfl
  conv => whnf
  refine bdec (p := szSt (s1, s2) left < 0) (fun h2 => ?_) (fun h2 => ?_)
  · conv => whnf
    simpa [h2] using h
  · conv => whnf
    rw [if_neg h2] at h
    exact h
end Go.Proofs.SL
set_option linter.unusedVariables false
set_option linter.unusedSimpArgs false
set_option maxRecDepth 100000
set_option maxHeartbeats 8000000
namespace Go.Proofs.SL
open Go Go.Proofs Go.Proofs.EN Go.Proofs.VT
variable {T : Tabs}
/-! ### Copies -/
theorem fill_set {α : Type} (A : List α) (z v : α) (m i : Nat) (hi : A.length = i) : (A ++ List.replicate (m + 1) z).set i v = (A ++ [v]) ++ List.replicate m z := by
  subst hi
  rw [List.set_append_right _ _ (Nat.le_refl _), Nat.sub_self]
  simp [List.replicate_succ]
theorem fill_get {α : Type} (A : List α) (z d : α) (m i : Nat) (hi : A.length = i) : (A ++ List.replicate (m + 1) z).getD i d = z := by
  subst hi
  simp [List.getD_eq_getElem?_getD]
theorem w91 (v : Ver) (Kr Kp : C → List Ob → R) (h : Kr (aV v) []) : Wp T Tryd.prog tt 91 [aV v] [] Kr Kp := by
  refine go (k := 91) (own := true) (cap := .deep) Tryd.func91 (by kernel_rfl) ?_
  conv => whnf
  exact h
theorem w53 (vs : List Ver) (Kr Kp : C → List Ob → R) (h : ∀ ver, Kr (.row 0) [.row 93 .deep ver (dVs vs)]) : Wp T Tryd.prog tt 53 [.d (.list 136 (dVs vs))] [] Kr Kp := by
  refine go (k := 53) (own := true) (cap := .deep) Tryd.func53 (by kernel_rfl) ?_
  conv => whnf
  intro hb
  conv => whnf
  refine ⟨⟨by omega, by omega, by simp [dVs, big] at hb ⊢; omega⟩, ?_⟩
  conv => whnf
  refine ⟨fun I hI => ?_⟩
  have key : ∀ (r : List Ver) (i : Nat), vs.drop i = r → I ⟨[(0, .d (.list 136 (dVs vs))), (3, .row 0), (4, .d (.int .i64 (i : Int)))], [.row 93 .deep 0 (dVs (vs.take i) ++ List.replicate r.length [.int .i64 0, .int .i64 0])]⟩ := by
    intro r
    induction r with
    | nil =>
      intro i hr
      have hi := drop_nil hr
      refine hI _ ?_
      conv => whnf
      intro _
      conv => whnf
      refine bdec (fun hc => ?_) (fun hc => ?_)
      · simp [dVs] at hc; omega
      · conv => whnf
        have := h 0
        rw [List.take_of_length_le hi]
        simpa using this
    | cons v r ih =>
      intro i hr
      obtain ⟨hi, he, hd⟩ := drop_cons hr
      refine hI _ ?_
      conv => whnf
      intro _
      conv => whnf
      refine bdec (fun hc => ?_) (fun hc => ?_)
      · conv => whnf
        refine ⟨natlt (by simpa [dVs] using hi), ?_⟩
        conv => whnf
        refine wpArgs (xs' := [aV v]) ?_ (w91 _ _ _ ?_)
        · simp [dVs, dV, aV, CK.norm, getI, List.getD_eq_getElem?_getD, hi, he]
        conv => whnf
        have hA : (dVs (vs.take i)).length = i := by simp [dVs]; omega
        refine ⟨natlt (by simp [dVs]; omega), ?_⟩
        conv => whnf
        refine ⟨by simp [dVs]; omega, ?_⟩
        conv => whnf
        refine eqI (ih (i + 1) hd) ?_
        rw [wrapS (by simp [dVs, big] at hb; omega), Int.toNat_natCast, List.length_cons, fill_get _ _ _ _ _ hA, fill_set _ _ _ _ _ hA, List.take_add_one]
        simp [setRun, dVs, dV, hi, he]
      · simp [dVs] at hc; omega
  refine eqI (key vs 0 rfl) ?_
  simp [dVs, CK.zero]
theorem w27 (cs : List (List Ver)) (Kr Kp : C → List Ob → R) (h : ∀ ver, Kr (.row 0) [.row 91 .deep ver (dCh 93 cs)]) : Wp T Tryd.prog tt 27 [.d (.list 89 (dCh 136 cs))] [] Kr Kp := by
  refine go (k := 27) (own := true) (cap := .deep) Tryd.func27 (by kernel_rfl) ?_
  conv => whnf
  intro hb
  conv => whnf
  refine ⟨⟨by omega, by omega, by simp [dCh, big] at hb ⊢; omega⟩, ?_⟩
  conv => whnf
  refine ⟨fun I hI => ?_⟩
  have key : ∀ (r : List (List Ver)) (i ver : Nat), cs.drop i = r → I ⟨[(0, .d (.list 89 (dCh 136 cs))), (3, .row 0), (4, .d (.int .i64 (i : Int)))], [.row 91 .deep ver (dCh 93 (cs.take i) ++ List.replicate r.length [.list 93 []])]⟩ := by
    intro r
    induction r with
    | nil =>
      intro i ver hr
      have hi := drop_nil hr
      refine hI _ ?_
      conv => whnf
      intro _
      conv => whnf
      refine bdec (fun hc => ?_) (fun hc => ?_)
      · simp [dCh] at hc; omega
      · conv => whnf
        have := h ver
        rw [List.take_of_length_le hi]
        simpa using this
    | cons vs r ih =>
      intro i ver hr
      obtain ⟨hi, he, hd⟩ := drop_cons hr
      refine hI _ ?_
      conv => whnf
      intro _
      conv => whnf
      refine bdec (fun hc => ?_) (fun hc => ?_)
      · conv => whnf
        refine ⟨natlt (by simpa [dCh] using hi), ?_⟩
        conv => whnf
        refine wpArgs (xs' := [.d (.list 136 (dVs vs))]) ?_ (w53 _ _ _ fun ver1 => ?_)
        · simp [dCh, CK.norm, getL, List.getD_eq_getElem?_getD, hi, he]
        conv => whnf
        have hA : (dCh 93 (cs.take i)).length = i := by simp [dCh]; omega
        refine ⟨natlt (by simp [dCh]; omega), ?_⟩
        conv => whnf
        refine ⟨by simp [dCh]; omega, ?_⟩
        conv => whnf
        refine eqI (ih (i + 1) (ver + 1) hd) ?_
        rw [wrapS (by simp [dCh, big] at hb; omega), Int.toNat_natCast, List.length_cons, fill_get _ _ _ _ _ hA, fill_set _ _ _ _ _ hA, List.take_add_one]
        simp [setRun, dCh, hi, he]
      · simp [dCh] at hc; omega
  refine eqI (key cs 0 0 rfl) ?_
  simp [dCh, CK.zero]
theorem w8 (s : List (List Ver) × Int) (Kr Kp : C → List Ob → R) (h : ∀ ver, Kr (.agg [.row 0, .d (.int .i64 s.2)]) [.row 91 .deep ver (dCh 93 s.1)]) : Wp T Tryd.prog tt 8 [aSt 89 136 s] [] Kr Kp := by
  refine go (k := 8) (own := true) (cap := .deep) Tryd.func8 (by kernel_rfl) ?_
  obtain ⟨s1, s2⟩ := s
  conv => whnf
  refine wpArgs (xs' := [.d (.list 89 (dCh 136 s1))]) ?_ (w27 _ _ _ fun ver => ?_)
  · rfl
  conv => whnf
  exact h ver
end Go.Proofs.SL
set_option linter.unusedVariables false
set_option linter.unusedSimpArgs false
set_option maxRecDepth 100000
set_option maxHeartbeats 8000000
namespace Go.Proofs.SL
open Go Go.Proofs Go.Proofs.EN Go.Proofs.VT
variable {T : Tabs}
/-! ### Marks -/
theorem set_mid {α : Type} (A r : List α) (v x : α) (i : Nat) (hi : A.length = i) : (A ++ v :: r).set i x = A ++ x :: r := by
  subst hi
  rw [List.set_append_right _ _ (Nat.le_refl _), Nat.sub_self]
  rfl
theorem get_mid {α : Type} (A r : List α) (v d : α) (i : Nat) (hi : A.length = i) : (A ++ v :: r).getD i d = v := by
  subst hi
  simp [List.getD_eq_getElem?_getD]
def mVs : List Ver → Nat → List Ver
  | [], _ => []
  | _ :: r, k => ((k : Int), ((k + 1 : Nat) : Int)) :: mVs r (k + 2)
theorem w60 (vs : List Ver) (ver k : Nat) (Kr Kp : C → List Ob → R) (hk : k + 2 * vs.length ≤ 100000000000) (h : Kr (.d (.int .i64 ((k + 2 * vs.length : Nat) : Int))) [.row 93 .deep ver (dVs (mVs vs k))]) : Wp T Tryd.prog tt 60 [.row 0, .d (.int .i64 (k : Int))] [.row 93 .deep ver (dVs vs)] Kr Kp := by
  refine go (k := 60) (own := true) (cap := .deep) Tryd.func60 (by kernel_rfl) ?_
  conv => whnf
  refine ⟨fun I hI => ?_⟩
  have key : ∀ (r pre : List Ver) (i k : Nat), pre.length = i → pre.length + r.length = vs.length → k + 2 * r.length ≤ 100000000000 → Kr (.d (.int .i64 ((k + 2 * r.length : Nat) : Int))) [.row 93 .deep ver (dVs (pre ++ mVs r k))] → I ⟨[(0, .row 0), (1, .d (.int .i64 (k : Int))), (5, .d (.int .i64 (i : Int)))], [.row 93 .deep ver (dVs (pre ++ r))]⟩ := by
    intro r
    induction r with
    | nil =>
      intro pre i k hi hl hk h
      refine hI _ ?_
      conv => whnf
      intro hb
      conv => whnf
      refine bdec (fun hc => ?_) (fun hc => ?_)
      · simp [dVs] at hc; omega
      · conv => whnf
        simpa [mVs] using h
    | cons v r ih =>
      intro pre i k hi hl hk h
      refine hI _ ?_
      conv => whnf
      intro hb
      conv => whnf
      refine bdec (fun hc => ?_) (fun hc => ?_)
      · conv => whnf
        refine ⟨natlt (by simp [dVs]; omega), ?_⟩
        conv => whnf
        refine ⟨by simp [dVs]; omega, ?_⟩
        conv => whnf
        refine ⟨natlt (by simp [dVs]; omega), ?_⟩
        conv => whnf
        refine ⟨by simp [dVs]; omega, ?_⟩
        conv => whnf
        have hA : (dVs pre).length = i := by simpa [dVs] using hi
        have e : dVs (pre ++ v :: r) = dVs pre ++ dV v :: dVs r := by simp [dVs]
        simp only [List.length_cons] at hl hk
        refine eqI (ih (pre ++ [((k : Int), ((k + 1 : Nat) : Int))]) (i + 1) (k + 2) (by simp [hi]) (by simp; omega) (by omega) ?_) ?_
        · simp only [List.length_cons, mVs] at h
          rw [show k + 2 + 2 * r.length = k + 2 * (r.length + 1) by omega]
          simpa using h
        · rw [e, Int.toNat_natCast, get_mid _ _ _ _ _ hA, set_mid _ _ _ _ _ hA, get_mid _ _ _ _ _ hA, set_mid _ _ _ _ _ hA, wrapS (n := k) (by omega), wrapS (n := k + 1) (by omega), wrapS (n := i) (by simp [dVs, big] at hb; omega)]
          simp [dVs, dV, setRun]
          omega
      · simp [dVs] at hc; omega
  exact key vs [] 0 k rfl (by simp) hk h
def mCh : List (List Ver) → Nat → List (List Ver)
  | [], _ => []
  | vs :: r, k => mVs vs k :: mCh r (k + 2 * vs.length)
def total : List (List Ver) → Nat
  | [] => 0
  | vs :: r => vs.length + total r
theorem w31 (cs : List (List Ver)) (ver k : Nat) (Kr Kp : C → List Ob → R) (hk : k + 2 * total cs ≤ 100000000000) (h : ∀ ver', Kr (.d (.int .i64 ((k + 2 * total cs : Nat) : Int))) [.row 91 .deep ver' (dCh 93 (mCh cs k))]) : Wp T Tryd.prog tt 31 [.row 0, .d (.int .i64 (k : Int))] [.row 91 .deep ver (dCh 93 cs)] Kr Kp := by
  refine go (k := 31) (own := true) (cap := .deep) Tryd.func31 (by kernel_rfl) ?_
  conv => whnf
  refine ⟨fun I hI => ?_⟩
  have key : ∀ (r pre : List (List Ver)) (ver i k : Nat), pre.length = i → pre.length + r.length = cs.length → k + 2 * total r ≤ 100000000000 → (∀ ver', Kr (.d (.int .i64 ((k + 2 * total r : Nat) : Int))) [.row 91 .deep ver' (dCh 93 (pre ++ mCh r k))]) → I ⟨[(0, .row 0), (1, .d (.int .i64 (k : Int))), (5, .d (.int .i64 (i : Int)))], [.row 91 .deep ver (dCh 93 (pre ++ r))]⟩ := by
    intro r
    induction r with
    | nil =>
      intro pre ver i k hi hl hk h
      refine hI _ ?_
      conv => whnf
      intro hb
      conv => whnf
      refine bdec (fun hc => ?_) (fun hc => ?_)
      · simp [dCh] at hc; omega
      · conv => whnf
        simpa [mCh, total] using h ver
    | cons vs r ih =>
      intro pre ver i k hi hl hk h
      refine hI _ ?_
      conv => whnf
      intro hb
      conv => whnf
      refine bdec (fun hc => ?_) (fun hc => ?_)
      · conv => whnf
        refine ⟨natlt (by simp [dCh]; omega), ?_⟩
        conv => whnf
        refine ⟨by simp [dCh]; omega, ?_⟩
        conv => whnf
        rw [vv ver]
        conv => whnf
        have hA : (dCh 93 pre).length = i := by simpa [dCh] using hi
        have e : dCh 93 (pre ++ vs :: r) = dCh 93 pre ++ [.list 93 (dVs vs)] :: dCh 93 r := by simp [dCh]
        have e1 : nstF (dCh 93 (pre ++ vs :: r)) (i : Int).toNat 0 = dVs vs := by
          rw [e, nstF, Int.toNat_natCast, get_mid _ _ _ _ _ hA]; rfl
        simp only [total] at hk
        refine wpObs rfl (by rw [e1]) (w60 vs 0 k _ _ (by omega) ?_)
        conv => whnf
        refine ⟨⟨rfl, rfl, rfl⟩, ?_⟩
        conv => whnf
        simp only [List.length_cons] at hl
        refine eqI (ih (pre ++ [mVs vs k]) ver (i + 1) (k + 2 * vs.length) (by simp [hi]) (by simp; omega) (by omega) fun ver' => ?_) ?_
        · have := h ver'
          simp only [total, mCh] at this
          rw [show k + 2 * vs.length + 2 * total r = k + 2 * (vs.length + total r) by omega]
          simpa using this
        · rw [e, Int.toNat_natCast, get_mid _ _ _ _ _ hA, set_mid _ _ _ _ _ hA, wrapS (n := i) (by simp [dCh, big] at hb; omega)]
          simp [dCh]
      · simp [dCh] at hc; omega
  exact key cs [] ver 0 k rfl (by simp) hk h
theorem w12 (s : List (List Ver) × Int) (ver k : Nat) (Kr Kp : C → List Ob → R) (hk : k + 2 * total s.1 ≤ 100000000000) (h : ∀ ver', Kr (.d (.int .i64 ((k + 2 * total s.1 : Nat) : Int))) [.row 91 .deep ver' (dCh 93 (mCh s.1 k))]) : Wp T Tryd.prog tt 12 [.agg [.row 0, .d (.int .i64 s.2)], .d (.int .i64 (k : Int))] [.row 91 .deep ver (dCh 93 s.1)] Kr Kp := by
  refine go (k := 12) (own := true) (cap := .deep) Tryd.func12 (by kernel_rfl) ?_
  conv => whnf
  refine w31 s.1 ver k _ _ hk fun ver' => ?_
  conv => whnf
  exact h ver'
def mStr : List Str → Nat → List Str
  | [], _ => []
  | _ :: r, k => markT k :: mStr r (k + 1)
theorem w13 (ws : List Str) (ver k : Nat) (Kr Kp : C → List Ob → R) (hk : k + ws.length ≤ 100000000000) (h : Kr (.d (.int .i64 ((k + ws.length : Nat) : Int))) [.row 9 .deep ver (dStr (mStr ws k))]) : Wp T Tryd.prog tt 13 [.row 0, .d (.int .i64 (k : Int))] [.row 9 .deep ver (dStr ws)] Kr Kp := by
  refine go (k := 13) (own := true) (cap := .deep) Tryd.func13 (by kernel_rfl) ?_
  conv => whnf
  refine ⟨fun I hI => ?_⟩
  have key : ∀ (r pre : List Str) (i k : Nat), pre.length = i → pre.length + r.length = ws.length → k + r.length ≤ 100000000000 → Kr (.d (.int .i64 ((k + r.length : Nat) : Int))) [.row 9 .deep ver (dStr (pre ++ mStr r k))] → I ⟨[(0, .row 0), (1, .d (.int .i64 (k : Int))), (5, .d (.int .i64 (i : Int)))], [.row 9 .deep ver (dStr (pre ++ r))]⟩ := by
    intro r
    induction r with
    | nil =>
      intro pre i k hi hl hk h
      refine hI _ ?_
      conv => whnf
      intro hb
      conv => whnf
      refine bdec (fun hc => ?_) (fun hc => ?_)
      · simp [dStr] at hc; omega
      · conv => whnf
        simpa [mStr] using h
    | cons v r ih =>
      intro pre i k hi hl hk h
      refine hI _ ?_
      conv => whnf
      intro hb
      conv => whnf
      refine bdec (fun hc => ?_) (fun hc => ?_)
      · simp only [List.length_cons] at hl hk
        conv => whnf
        refine w32 _ _ _ (by omega) ?_
        conv => whnf
        refine ⟨natlt (by simp [dStr]; omega), ?_⟩
        conv => whnf
        refine ⟨by simp [dStr]; omega, ?_⟩
        conv => whnf
        have hA : (dStr pre).length = i := by simpa [dStr] using hi
        have e : dStr (pre ++ v :: r) = dStr pre ++ [.str v] :: dStr r := by simp [dStr]
        refine eqI (ih (pre ++ [markT k]) (i + 1) (k + 1) (by simp [hi]) (by simp; omega) (by omega) ?_) ?_
        · simp only [List.length_cons, mStr] at h
          rw [show k + 1 + r.length = k + (r.length + 1) by omega]
          simpa using h
        · rw [e, Int.toNat_natCast, get_mid _ _ _ _ _ hA, set_mid _ _ _ _ _ hA, wrapS (n := k) (by omega), wrapS (n := i) (by simp [dStr, big] at hb; omega)]
          simp [dStr, setRun]
      · simp [dStr] at hc; omega
  exact key ws [] 0 k rfl (by simp) hk h
/-- Does it hold marks from k on? -/
def hStr : List Str → Nat → Int
  | [], k => (k : Int)
  | w :: r, k => if w = markT k then hStr r (k + 1) else -1
theorem w14 (ws : List Str) (k : Nat) (Kr Kp : C → List Ob → R) (hk : k + ws.length ≤ 100000000000) (h : Kr (.d (.int .i64 (hStr ws k))) []) : Wp T Tryd.prog tt 14 [.d (.list 9 (dStr ws)), .d (.int .i64 (k : Int))] [] Kr Kp := by
  refine go (k := 14) (own := true) (cap := .deep) Tryd.func14 (by kernel_rfl) ?_
  conv => whnf
  refine ⟨fun I hI => ?_⟩
  have key : ∀ (r : List Str) (i k : Nat), ws.drop i = r → k + r.length ≤ 100000000000 → Kr (.d (.int .i64 (hStr r k))) [] → I ⟨[(0, .d (.list 9 (dStr ws))), (1, .d (.int .i64 (k : Int))), (5, .d (.int .i64 (i : Int)))], []⟩ := by
    intro r
    induction r with
    | nil =>
      intro i k hr hk h
      have hi := drop_nil hr
      refine hI _ ?_
      conv => whnf
      intro hb
      conv => whnf
      refine bdec (fun hc => ?_) (fun hc => ?_)
      · simp [dStr] at hc; omega
      · conv => whnf
        exact h
    | cons v r ih =>
      intro i k hr hk h
      obtain ⟨hi, he, hd⟩ := drop_cons hr
      refine hI _ ?_
      conv => whnf
      intro hb
      conv => whnf
      refine bdec (fun hc => ?_) (fun hc => ?_)
      · simp only [List.length_cons] at hk
        conv => whnf
        refine .head _ rfl (by kernel_rfl) ?_
        conv => whnf
        refine ⟨natlt (by simpa [dStr] using hi), ?_⟩
        conv => whnf
        refine ⟨.d (.str (markT k)), fun Kr' Kp' hk' => w32 _ _ _ (by omega) hk', ?_⟩
        conv => whnf
        have e : getS (((dStr ws).getD i []).getD 0 .z) = v := by simp [dStr, getS, List.getD_eq_getElem?_getD, hi, he]
        refine bnot (p := getS (((dStr ws).getD i []).getD 0 .z) = markT k) (fun h2 => ?_) (fun h2 => ?_)
        · conv => whnf
          rw [e] at h2
          simpa [hStr, h2] using h
        · conv => whnf
          rw [e] at h2
          simp only [hStr, if_pos h2] at h
          refine eqI (ih (i + 1) (k + 1) hd (by omega) h) ?_
          rw [wrapS (n := k) (by omega), wrapS (n := i) (by simp [dStr, big] at hb; omega)]
      · simp [dStr] at hc; omega
  exact key ws 0 k rfl hk h
end Go.Proofs.SL
