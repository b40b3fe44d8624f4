/- Contracts of functions of this program, by the evaluator EN; part SL4. No conditions but those that each theorem states. -/
import Derived.Test.YtekcghhacpllaaaDoorSL3
set_option linter.unusedVariables false
set_option linter.unusedSimpArgs false
set_option maxRecDepth 100000
set_option maxHeartbeats 8000000
namespace Go.Proofs.SL
open Go Go.Proofs Go.Proofs.EN Go.Proofs.VT
variable {T : Tabs}
/-! ### Marks -/
theorem set_mid {α : Type} (A r : List α) (v x : α) (i : Nat) (hi : A.length = i) : (A ++ v :: r).set i x = A ++ x :: r := by
  subst hi
  rw [List.set_append_right _ _ (Nat.le_refl _), Nat.sub_self]
  rfl
theorem get_mid {α : Type} (A r : List α) (v d : α) (i : Nat) (hi : A.length = i) : (A ++ v :: r).getD i d = v := by
  subst hi
  simp [List.getD_eq_getElem?_getD]
def mVs : List Ver → Nat → List Ver
  | [], _ => []
  | _ :: r, k => ((k : Int), ((k + 1 : Nat) : Int)) :: mVs r (k + 2)
theorem w60 (vs : List Ver) (ver k : Nat) (Kr Kp : C → List Ob → R) (hk : k + 2 * vs.length ≤ 100000000000) (h : Kr (.d (.int .i64 ((k + 2 * vs.length : Nat) : Int))) [.row 93 .deep ver (dVs (mVs vs k))]) : Wp T Tryd.prog tt 60 [.row 0, .d (.int .i64 (k : Int))] [.row 93 .deep ver (dVs vs)] Kr Kp := by
  refine go (k := 60) (own := true) (cap := .deep) Tryd.func60 (by kernel_rfl) ?_
  conv => whnf
  refine ⟨fun I hI => ?_⟩
  have key : ∀ (r pre : List Ver) (i k : Nat), pre.length = i → pre.length + r.length = vs.length → k + 2 * r.length ≤ 100000000000 → Kr (.d (.int .i64 ((k + 2 * r.length : Nat) : Int))) [.row 93 .deep ver (dVs (pre ++ mVs r k))] → I ⟨[(0, .row 0), (1, .d (.int .i64 (k : Int))), (5, .d (.int .i64 (i : Int)))], [.row 93 .deep ver (dVs (pre ++ r))]⟩ := by
    intro r
    induction r with
    | nil =>
      intro pre i k hi hl hk h
      refine hI _ ?_
      conv => whnf
      intro hb
      conv => whnf
      refine bdec (fun hc => ?_) (fun hc => ?_)
      · simp [dVs] at hc; omega
      · conv => whnf
        simpa [mVs] using h
    | cons v r ih =>
      intro pre i k hi hl hk h
      refine hI _ ?_
      conv => whnf
      intro hb
      conv => whnf
      refine bdec (fun hc => ?_) (fun hc => ?_)
      · conv => whnf
        refine ⟨natlt (by simp [dVs]; omega), ?_⟩
        conv => whnf
        refine ⟨by simp [dVs]; omega, ?_⟩
        conv => whnf
        refine ⟨natlt (by simp [dVs]; omega), ?_⟩
        conv => whnf
        refine ⟨by simp [dVs]; omega, ?_⟩
        conv => whnf
        have hA : (dVs pre).length = i := by simpa [dVs] using hi
        have e : dVs (pre ++ v :: r) = dVs pre ++ dV v :: dVs r := by simp [dVs]
        simp only [List.length_cons] at hl hk
        refine eqI (ih (pre ++ [((k : Int), ((k + 1 : Nat) : Int))]) (i + 1) (k + 2) (by simp [hi]) (by simp; omega) (by omega) ?_) ?_
        · simp only [List.length_cons, mVs] at h
          rw [show k + 2 + 2 * r.length = k + 2 * (r.length + 1) by omega]
          simpa using h
        · rw [e, Int.toNat_natCast, get_mid _ _ _ _ _ hA, set_mid _ _ _ _ _ hA, get_mid _ _ _ _ _ hA, set_mid _ _ _ _ _ hA, wrapS (n := k) (by omega), wrapS (n := k + 1) (by omega), wrapS (n := i) (by simp [dVs, big] at hb; omega)]
          simp [dVs, dV, setRun]
          omega
      · simp [dVs] at hc; omega
  exact key vs [] 0 k rfl (by simp) hk h
def mCh : List (List Ver) → Nat → List (List Ver)
  | [], _ => []
  | vs :: r, k => mVs vs k :: mCh r (k + 2 * vs.length)
def total : List (List Ver) → Nat
  | [] => 0
  | vs :: r => vs.length + total r
theorem w31 (cs : List (List Ver)) (ver k : Nat) (Kr Kp : C → List Ob → R) (hk : k + 2 * total cs ≤ 100000000000) (h : ∀ ver', Kr (.d (.int .i64 ((k + 2 * total cs : Nat) : Int))) [.row 91 .deep ver' (dCh 93 (mCh cs k))]) : Wp T Tryd.prog tt 31 [.row 0, .d (.int .i64 (k : Int))] [.row 91 .deep ver (dCh 93 cs)] Kr Kp := by
  refine go (k := 31) (own := true) (cap := .deep) Tryd.func31 (by kernel_rfl) ?_
  conv => whnf
  refine ⟨fun I hI => ?_⟩
  have key : ∀ (r pre : List (List Ver)) (ver i k : Nat), pre.length = i → pre.length + r.length = cs.length → k + 2 * total r ≤ 100000000000 → (∀ ver', Kr (.d (.int .i64 ((k + 2 * total r : Nat) : Int))) [.row 91 .deep ver' (dCh 93 (pre ++ mCh r k))]) → I ⟨[(0, .row 0), (1, .d (.int .i64 (k : Int))), (5, .d (.int .i64 (i : Int)))], [.row 91 .deep ver (dCh 93 (pre ++ r))]⟩ := by
    intro r
    induction r with
    | nil =>
      intro pre ver i k hi hl hk h
      refine hI _ ?_
      conv => whnf
      intro hb
      conv => whnf
      refine bdec (fun hc => ?_) (fun hc => ?_)
      · simp [dCh] at hc; omega
      · conv => whnf
        simpa [mCh, total] using h ver
    | cons vs r ih =>
      intro pre ver i k hi hl hk h
      refine hI _ ?_
      conv => whnf
      intro hb
      conv => whnf
      refine bdec (fun hc => ?_) (fun hc => ?_)
      · conv => whnf
        refine ⟨natlt (by simp [dCh]; omega), ?_⟩
        conv => whnf
        refine ⟨by simp [dCh]; omega, ?_⟩
        conv => whnf
        rw [vv ver]
        conv => whnf
        have hA : (dCh 93 pre).length = i := by simpa [dCh] using hi
        have e : dCh 93 (pre ++ vs :: r) = dCh 93 pre ++ [.list 93 (dVs vs)] :: dCh 93 r := by simp [dCh]
        have e1 : nstF (dCh 93 (pre ++ vs :: r)) (i : Int).toNat 0 = dVs vs := by
          rw [e, nstF, Int.toNat_natCast, get_mid _ _ _ _ _ hA]; rfl
        simp only [total] at hk
        refine wpObs rfl (by rw [e1]) (w60 vs 0 k _ _ (by omega) ?_)
        conv => whnf
        refine ⟨⟨rfl, rfl, rfl⟩, ?_⟩
        conv => whnf
        simp only [List.length_cons] at hl
        refine eqI (ih (pre ++ [mVs vs k]) ver (i + 1) (k + 2 * vs.length) (by simp [hi]) (by simp; omega) (by omega) fun ver' => ?_) ?_
        · have := h ver'
          simp only [total, mCh] at this
          rw [show k + 2 * vs.length + 2 * total r = k + 2 * (vs.length + total r) by omega]
          simpa using this
        · rw [e, Int.toNat_natCast, get_mid _ _ _ _ _ hA, set_mid _ _ _ _ _ hA, wrapS (n := i) (by simp [dCh, big] at hb; omega)]
          simp [dCh]
      · simp [dCh] at hc; omega
  exact key cs [] ver 0 k rfl (by simp) hk h
theorem w12 (s : List (List Ver) × Int) (ver k : Nat) (Kr Kp : C → List Ob → R) (hk : k + 2 * total s.1 ≤ 100000000000) (h : ∀ ver', Kr (.d (.int .i64 ((k + 2 * total s.1 : Nat) : Int))) [.row 91 .deep ver' (dCh 93 (mCh s.1 k))]) : Wp T Tryd.prog tt 12 [.agg [.row 0, .d (.int .i64 s.2)], .d (.int .i64 (k : Int))] [.row 91 .deep ver (dCh 93 s.1)] Kr Kp := by
  refine go (k := 12) (own := true) (cap := .deep) Tryd.func12 (by kernel_rfl) ?_
  conv => whnf
  refine w31 s.1 ver k _ _ hk fun ver' => ?_
  conv => whnf
  exact h ver'
def mStr : List Str → Nat → List Str
  | [], _ => []
  | _ :: r, k => markT k :: mStr r (k + 1)
theorem w13 (ws : List Str) (ver k : Nat) (Kr Kp : C → List Ob → R) (hk : k + ws.length ≤ 100000000000) (h : Kr (.d (.int .i64 ((k + ws.length : Nat) : Int))) [.row 9 .deep ver (dStr (mStr ws k))]) : Wp T Tryd.prog tt 13 [.row 0, .d (.int .i64 (k : Int))] [.row 9 .deep ver (dStr ws)] Kr Kp := by
  refine go (k := 13) (own := true) (cap := .deep) Tryd.func13 (by kernel_rfl) ?_
  conv => whnf
  refine ⟨fun I hI => ?_⟩
  have key : ∀ (r pre : List Str) (i k : Nat), pre.length = i → pre.length + r.length = ws.length → k + r.length ≤ 100000000000 → Kr (.d (.int .i64 ((k + r.length : Nat) : Int))) [.row 9 .deep ver (dStr (pre ++ mStr r k))] → I ⟨[(0, .row 0), (1, .d (.int .i64 (k : Int))), (5, .d (.int .i64 (i : Int)))], [.row 9 .deep ver (dStr (pre ++ r))]⟩ := by
    intro r
    induction r with
    | nil =>
      intro pre i k hi hl hk h
      refine hI _ ?_
      conv => whnf
      intro hb
      conv => whnf
      refine bdec (fun hc => ?_) (fun hc => ?_)
      · simp [dStr] at hc; omega
      · conv => whnf
        simpa [mStr] using h
    | cons v r ih =>
      intro pre i k hi hl hk h
      refine hI _ ?_
      conv => whnf
      intro hb
      conv => whnf
      refine bdec (fun hc => ?_) (fun hc => ?_)
      · simp only [List.length_cons] at hl hk
        conv => whnf
        refine w32 _ _ _ (by omega) ?_
        conv => whnf
        refine ⟨natlt (by simp [dStr]; omega), ?_⟩
        conv => whnf
        refine ⟨by simp [dStr]; omega, ?_⟩
        conv => whnf
        have hA : (dStr pre).length = i := by simpa [dStr] using hi
        have e : dStr (pre ++ v :: r) = dStr pre ++ [.str v] :: dStr r := by simp [dStr]
        refine eqI (ih (pre ++ [markT k]) (i + 1) (k + 1) (by simp [hi]) (by simp; omega) (by omega) ?_) ?_
        · simp only [List.length_cons, mStr] at h
          rw [show k + 1 + r.length = k + (r.length + 1) by omega]
          simpa using h
        · rw [e, Int.toNat_natCast, get_mid _ _ _ _ _ hA, set_mid _ _ _ _ _ hA, wrapS (n := k) (by omega), wrapS (n := i) (by simp [dStr, big] at hb; omega)]
          simp [dStr, setRun]
      · simp [dStr] at hc; omega
  exact key ws [] 0 k rfl (by simp) hk h
/-- Does it hold marks from k on? -/
def hStr : List Str → Nat → Int
  | [], k => (k : Int)
  | w :: r, k => if w = markT k then hStr r (k + 1) else -1
theorem w14 (ws : List Str) (k : Nat) (Kr Kp : C → List Ob → R) (hk : k + ws.length ≤ 100000000000) (h : Kr (.d (.int .i64 (hStr ws k))) []) : Wp T Tryd.prog tt 14 [.d (.list 9 (dStr ws)), .d (.int .i64 (k : Int))] [] Kr Kp := by
  refine go (k := 14) (own := true) (cap := .deep) Tryd.func14 (by kernel_rfl) ?_
  conv => whnf
  refine ⟨fun I hI => ?_⟩
  have key : ∀ (r : List Str) (i k : Nat), ws.drop i = r → k + r.length ≤ 100000000000 → Kr (.d (.int .i64 (hStr r k))) [] → I ⟨[(0, .d (.list 9 (dStr ws))), (1, .d (.int .i64 (k : Int))), (5, .d (.int .i64 (i : Int)))], []⟩ := by
    intro r
    induction r with
    | nil =>
      intro i k hr hk h
      have hi := drop_nil hr
      refine hI _ ?_
      conv => whnf
      intro hb
      conv => whnf
      refine bdec (fun hc => ?_) (fun hc => ?_)
      · simp [dStr] at hc; omega
      · conv => whnf
        exact h
    | cons v r ih =>
      intro i k hr hk h
      obtain ⟨hi, he, hd⟩ := drop_cons hr
      refine hI _ ?_
      conv => whnf
      intro hb
      conv => whnf
      refine bdec (fun hc => ?_) (fun hc => ?_)
      · simp only [List.length_cons] at hk
        conv => whnf
        refine .head _ rfl (by kernel_rfl) ?_
        conv => whnf
        refine ⟨natlt (by simpa [dStr] using hi), ?_⟩
        conv => whnf
        refine ⟨.d (.str (markT k)), fun Kr' Kp' hk' => w32 _ _ _ (by omega) hk', ?_⟩
        conv => whnf
        have e : getS (((dStr ws).getD i []).getD 0 .z) = v := by simp [dStr, getS, List.getD_eq_getElem?_getD, hi, he]
        refine bnot (p := getS (((dStr ws).getD i []).getD 0 .z) = markT k) (fun h2 => ?_) (fun h2 => ?_)
        · conv => whnf
          rw [e] at h2
          simpa [hStr, h2] using h
        · conv => whnf
          rw [e] at h2
          simp only [hStr, if_pos h2] at h
          refine eqI (ih (i + 1) (k + 1) hd (by omega) h) ?_
          rw [wrapS (n := k) (by omega), wrapS (n := i) (by simp [dStr, big] at hb; omega)]
      · simp [dStr] at hc; omega
  exact key ws 0 k rfl hk h
end Go.Proofs.SL
