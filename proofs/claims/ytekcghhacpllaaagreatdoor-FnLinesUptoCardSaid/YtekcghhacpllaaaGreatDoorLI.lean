/- Contracts of functions of this program, by the evaluator EN. No conditions but those that each theorem states. -/
import Derived.Test.YtekcghhacpllaaaGreatDoorLH
import Derived.Test.YtekcghhacpllaaaGreatDoorLD
set_option linter.unusedVariables false
set_option linter.unusedSimpArgs false
set_option maxRecDepth 100000
set_option maxHeartbeats 8000000
namespace Go.Proofs.SL
open Go Go.Proofs Go.Proofs.EN Go.Proofs.VT
variable {T : Tabs}
/-! ### The first code that is not 0 -/
def firstC {α : Type} (f : α → Int) : List α → Int
  | [] => 0
  | x :: r => if f x = 0 then firstC f r else f x
theorem firstC_bad {α : Type} [Inhabited α] {f : α → Int} : ∀ {ss : List α} {i : Nat}, (∀ j, j < i → f ((ss[j]?).getD default) = 0) → i < ss.length → f ((ss[i]?).getD default) ≠ 0 → firstC f ss = f ((ss[i]?).getD default)
  | x :: r, 0, _, _, h => by rw [firstC, if_neg (by simpa using h)]; rfl
  | x :: r, i + 1, h1, h2, h3 => by
    rw [firstC, if_pos (by simpa using h1 0 (by omega)), firstC_bad (i := i) (fun j hj => by simpa using h1 (j + 1) (by omega)) (by simpa using h2) (by simpa using h3)]
    simp
theorem firstC_ok {α : Type} [Inhabited α] {f : α → Int} : ∀ {ss : List α}, (∀ j, j < ss.length → f ((ss[j]?).getD default) = 0) → firstC f ss = 0
  | [], _ => by rw [firstC]
  | x :: r, h => by rw [firstC, if_pos (by simpa using h 0 (by simp)), firstC_ok fun j hj => by simpa using h (j + 1) (by simpa using hj)]
theorem firstC_0 {α : Type} {f : α → Int} : ∀ {ss : List α}, firstC f ss = 0 → ∀ x ∈ ss, f x = 0
  | [], _, x, hx => by cases hx
  | y :: r, h, x, hx => by
    rw [firstC] at h
    split at h
    · rename_i h0
      rcases List.mem_cons.1 hx with rfl | hx
      · exact h0
      · exact firstC_0 h x hx
    · rename_i h0; exact absurd h h0
theorem w202 {ts : List TypeDef} {d : QDoc} (ht : TypOK ts) : ∀ (N : Nat) {n : Str} {ss : List QSel} {Kr Kp : C → List Ob → R}, qCnt ss < N → (ss = [] ∨ 0 ≤ fnd (ts.map (·.1)) n) → (h : Kr (.d (.int .i64 (typL ts d n ss))) []) → Wp T Tryz.prog tt 202 [cSch ts, cDoc d, .d (.str n), .d (dSS ss)] [] Kr Kp := by
  intro N
  induction N with
  | zero =>
    intro n ss Kr Kp hq hn h
    omega
  | succ N ih =>
    intro n ss Kr Kp hq hn h
    refine go (k := 202) (own := true) (cap := .deep) Tryz.func202 (by kernel_rfl) ?_
    (conv => whnf); repeat' (first | ((first | refine bdec ?_ ?_ | refine bnot ?_ ?_ | refine bsel_intro ?_ ?_ | skip) <;> intro hc <;> (try simp (disch := omega) only [nm, nq, dArgDefs_len, dFieldDefs_len, dTypeDefs_len, dArgDefs_0, dArgDefs_1, dFieldDefs_0, dFieldDefs_1, dFieldDefs_2, dFieldDefs_3, dFieldDefs_4, dTypeDefs_0, dTypeDefs_1, Nat.reduceAdd, wrapI] at hc) <;> conv => whnf) | (refine .head _ rfl (by kernel_rfl) ?_; conv => whnf) | (refine And.intro ?_ ?_; (focus ((first | omega | decide | (simp (disch := omega) only [nm, nq, dArgDefs_len, dFieldDefs_len, dTypeDefs_len, dArgDefs_0, dArgDefs_1, dFieldDefs_0, dFieldDefs_1, dFieldDefs_2, dFieldDefs_3, dFieldDefs_4, dTypeDefs_0, dTypeDefs_1, Nat.reduceAdd, wrapI] <;> omega) | (simp [strOf, nm, nq, dArgDefs_len, dFieldDefs_len, dTypeDefs_len, dArgDefs_0, dArgDefs_1, dFieldDefs_0, dFieldDefs_1, dFieldDefs_2, dFieldDefs_3, dFieldDefs_4, dTypeDefs_0, dTypeDefs_1, Nat.reduceAdd] <;> omega) | exact Nat.le_of_ble_eq_true rfl | rfl); done)); conv => whnf) | (rw [vv]; conv => whnf) | (refine NilP.mk fun nb hnb => ?_; conv => whnf))
    refine loopOf (fun i : Nat => ⟨[(2, .d (.str n)), (3, .d (dSS ss)), (4, .ref 0 0), (5, .ref 1 0), (9, .d (.int .i64 (i : Int)))], [.box [.d (.list 37 (dTypeDefs 40 68 ts))], .box [.d (.list 192 (dQDefs 222 237 201 d))]]⟩) (fun i => i ≤ ss.length ∧ ∀ j, j < i → typS ts d n ((ss[j]?).getD default) = 0) (fun i => ss.length - i) 0 rfl ⟨by omega, fun j hj => by omega⟩ ?_
    intro i I hi rec
    obtain ⟨hi1, hi2⟩ := hi
    obtain ⟨x, hx⟩ : ∃ x, (ss[i]?).getD default = x := ⟨_, rfl⟩
    have hq2 : i < ss.length → qCnt x.sels < N := fun h => by have := qCnt_mem (List.mem_of_getElem? (of_getD hx h)); omega
    have hn2 : i < ss.length → 0 ≤ fnd (ts.map (·.1)) n := fun h => hn.resolve_left fun e => by rw [e] at h; exact absurd h (by simp)
    (conv => whnf); repeat' (first | ((first | refine bdec ?_ ?_ | refine bnot ?_ ?_ | refine bsel_intro ?_ ?_ | skip) <;> intro hc <;> (try simp (disch := omega) only [nm, nq, dArgDefs_len, dFieldDefs_len, dTypeDefs_len, dArgDefs_0, dArgDefs_1, dFieldDefs_0, dFieldDefs_1, dFieldDefs_2, dFieldDefs_3, dFieldDefs_4, dTypeDefs_0, dTypeDefs_1, Nat.reduceAdd, hx, wrapI] at hc) <;> conv => whnf) | (refine .head _ rfl (by kernel_rfl) ?_; conv => whnf) | (refine (fun hq => wpArgs (xs' := [cSch ts, cDoc d, .d (.str n), cSel x]) (by simp only [nm, nq, dArgDefs_len, dFieldDefs_len, dTypeDefs_len, dArgDefs_0, dArgDefs_1, dFieldDefs_0, dFieldDefs_1, dFieldDefs_2, dFieldDefs_3, dFieldDefs_4, dTypeDefs_0, dTypeDefs_1, Nat.reduceAdd, hx]) (w222 ht (hn2 (by omega)) (fun h1 h2 => ih (hq2 (by omega)) h1 h2) hq)) ?_; conv => whnf) | (apply pcall; (focus (intro _ _ hk; first | exact (fun hq => wpArgs (xs' := [cSch ts, cDoc d, .d (.str n), cSel x]) (by simp only [nm, nq, dArgDefs_len, dFieldDefs_len, dTypeDefs_len, dArgDefs_0, dArgDefs_1, dFieldDefs_0, dFieldDefs_1, dFieldDefs_2, dFieldDefs_3, dFieldDefs_4, dTypeDefs_0, dTypeDefs_1, Nat.reduceAdd, hx]) (w222 ht (hn2 (by omega)) (fun h1 h2 => ih (hq2 (by omega)) h1 h2) hq)) hk)); conv => whnf) | (refine And.intro ?_ ?_; (focus ((first | omega | decide | (simp (disch := omega) only [nm, nq, dArgDefs_len, dFieldDefs_len, dTypeDefs_len, dArgDefs_0, dArgDefs_1, dFieldDefs_0, dFieldDefs_1, dFieldDefs_2, dFieldDefs_3, dFieldDefs_4, dTypeDefs_0, dTypeDefs_1, Nat.reduceAdd, hx, wrapI] <;> omega) | (simp [strOf, nm, nq, dArgDefs_len, dFieldDefs_len, dTypeDefs_len, dArgDefs_0, dArgDefs_1, dFieldDefs_0, dFieldDefs_1, dFieldDefs_2, dFieldDefs_3, dFieldDefs_4, dTypeDefs_0, dTypeDefs_1, Nat.reduceAdd, hx] <;> omega) | exact Nat.le_of_ble_eq_true rfl | rfl); done)); conv => whnf) | (rw [vv]; conv => whnf) | (refine NilP.mk fun nb hnb => ?_; conv => whnf))
    · refine krI h ?_
      have e := typL_bad (ss := ss) (i := i) hi2 (by omega) (by rw [hx]; exact hc)
      rw [e, hx]
    · refine eqI (rec (i + 1) ⟨by omega, lt_succ_split hi2 (by rw [hx]; exact hc)⟩ (by omega)) ?_
      rw [wrapS (by omega)]
    · exact krI h (typL_ok fun j hj => hi2 j (by omega))
def rootN (x : QDef) : Str := if x.1 = 1 then tQu else if x.1 = 2 then tMu else if x.1 = 3 then x.2.2.1 else []
def typD (ts : List TypeDef) (d : QDoc) (x : QDef) : Int := if fnd (ts.map (·.1)) (rootN x) < 0 then 12 else typL ts d (rootN x) x.2.2.2
def typesC (ts : List TypeDef) (d : QDoc) : Int := firstC (typD ts d) d
theorem w178 {ts : List TypeDef} {d : QDoc} {Kr Kp : C → List Ob → R} (ht : TypOK ts) (hd : ∀ x ∈ d, 0 ≤ x.1 ∧ x.1 ≤ 3) (h : Kr (.d (.int .i64 (typesC ts d))) []) : Wp T Tryz.prog tt 178 [cSch ts, cDoc d] [] Kr Kp := by
  refine go (k := 178) (own := true) (cap := .deep) Tryz.func178 (by kernel_rfl) ?_
  (conv => whnf); repeat' (first | ((first | refine bdec ?_ ?_ | refine bnot ?_ ?_ | refine bsel_intro ?_ ?_ | skip) <;> intro hc <;> (try simp (disch := omega) only [nm, nq, dArgDefs_len, dFieldDefs_len, dTypeDefs_len, dArgDefs_0, dArgDefs_1, dFieldDefs_0, dFieldDefs_1, dFieldDefs_2, dFieldDefs_3, dFieldDefs_4, dTypeDefs_0, dTypeDefs_1, Nat.reduceAdd, wrapI] at hc) <;> conv => whnf) | (refine .head _ rfl (by kernel_rfl) ?_; conv => whnf) | (refine And.intro ?_ ?_; (focus ((first | omega | decide | (simp (disch := omega) only [nm, nq, dArgDefs_len, dFieldDefs_len, dTypeDefs_len, dArgDefs_0, dArgDefs_1, dFieldDefs_0, dFieldDefs_1, dFieldDefs_2, dFieldDefs_3, dFieldDefs_4, dTypeDefs_0, dTypeDefs_1, Nat.reduceAdd, wrapI] <;> omega) | (simp [strOf, nm, nq, dArgDefs_len, dFieldDefs_len, dTypeDefs_len, dArgDefs_0, dArgDefs_1, dFieldDefs_0, dFieldDefs_1, dFieldDefs_2, dFieldDefs_3, dFieldDefs_4, dTypeDefs_0, dTypeDefs_1, Nat.reduceAdd] <;> omega) | exact Nat.le_of_ble_eq_true rfl | rfl); done)); conv => whnf) | (rw [vv]; conv => whnf) | (refine NilP.mk fun nb hnb => ?_; conv => whnf))
  refine loopOf (fun i : Nat => ⟨[(2, .ref 0 0), (3, .ref 1 0), (5, .d (.int .i64 (i : Int)))], [.box [.d (.list 37 (dTypeDefs 40 68 ts))], .box [.d (.list 192 (dQDefs 222 237 201 d))]]⟩) (fun i => i ≤ d.length ∧ ∀ j, j < i → typD ts d ((d[j]?).getD default) = 0) (fun i => d.length - i) 0 rfl ⟨by omega, fun j hj => by omega⟩ ?_
  intro i I hi rec
  obtain ⟨hi1, hi2⟩ := hi
  obtain ⟨⟨k, n, o, ss⟩, hx⟩ : ∃ x, (d[i]?).getD default = x := ⟨_, rfl⟩
  have hk : i < d.length → k = 0 ∨ k = 1 ∨ k = 2 ∨ k = 3 := fun h => by have := hd _ (List.mem_of_getElem? (of_getD hx h)); simp only at this; omega
  by_cases hlt : i < d.length
  · rcases hk hlt with rfl | rfl | rfl | rfl
    · (conv => whnf); repeat' (first | ((first | refine bdec ?_ ?_ | refine bnot ?_ ?_ | refine bsel_intro ?_ ?_ | skip) <;> intro hc <;> (try simp (disch := omega) only [nm, nq, dArgDefs_len, dFieldDefs_len, dTypeDefs_len, dArgDefs_0, dArgDefs_1, dFieldDefs_0, dFieldDefs_1, dFieldDefs_2, dFieldDefs_3, dFieldDefs_4, dTypeDefs_0, dTypeDefs_1, Nat.reduceAdd, hx, Int.reduceToNat, List.getElem?_cons_zero, List.getElem?_cons_succ, Option.getD_some, wrapI] at hc) <;> conv => whnf) | (refine .head _ rfl (by kernel_rfl) ?_; conv => whnf) | (refine aheadAtB 178 (by kernel_rfl) (by kernel_rfl) ?_; conv => whnf) | (refine PAnd.mk ?_ ?_ <;> conv => whnf) | exact PTrue.mk | (refine .head _ rfl (by kernel_rfl) ?_; conv => whnf) | (refine w30 ?_; conv => whnf) | (refine (fun hq hr => wpArgs (xs' := [cSch ts, cDoc d, .d (.str []), .d (dSS ss)]) (by simp only [nm, nq, dArgDefs_len, dFieldDefs_len, dTypeDefs_len, dArgDefs_0, dArgDefs_1, dFieldDefs_0, dFieldDefs_1, dFieldDefs_2, dFieldDefs_3, dFieldDefs_4, dTypeDefs_0, dTypeDefs_1, Nat.reduceAdd, hx, Int.reduceToNat, List.getElem?_cons_zero, List.getElem?_cons_succ, Option.getD_some] <;> rfl) (w202 ht (qCnt ss + 1) (Nat.lt_succ_self _) hq hr)) ?_ ?_ <;> conv => whnf) | (apply pcall; (focus (intro _ _ hk; first | exact w30 hk | exact (fun hq hr => wpArgs (xs' := [cSch ts, cDoc d, .d (.str []), .d (dSS ss)]) (by simp only [nm, nq, dArgDefs_len, dFieldDefs_len, dTypeDefs_len, dArgDefs_0, dArgDefs_1, dFieldDefs_0, dFieldDefs_1, dFieldDefs_2, dFieldDefs_3, dFieldDefs_4, dTypeDefs_0, dTypeDefs_1, Nat.reduceAdd, hx, Int.reduceToNat, List.getElem?_cons_zero, List.getElem?_cons_succ, Option.getD_some] <;> rfl) (w202 ht (qCnt ss + 1) (Nat.lt_succ_self _) hq hr)) ?_ ?_ hk)); conv => whnf) | (refine And.intro ?_ ?_; (focus ((first | omega | decide | (simp (disch := omega) only [nm, nq, dArgDefs_len, dFieldDefs_len, dTypeDefs_len, dArgDefs_0, dArgDefs_1, dFieldDefs_0, dFieldDefs_1, dFieldDefs_2, dFieldDefs_3, dFieldDefs_4, dTypeDefs_0, dTypeDefs_1, Nat.reduceAdd, hx, Int.reduceToNat, List.getElem?_cons_zero, List.getElem?_cons_succ, Option.getD_some, wrapI] <;> omega) | (simp [strOf, nm, nq, dArgDefs_len, dFieldDefs_len, dTypeDefs_len, dArgDefs_0, dArgDefs_1, dFieldDefs_0, dFieldDefs_1, dFieldDefs_2, dFieldDefs_3, dFieldDefs_4, dTypeDefs_0, dTypeDefs_1, Nat.reduceAdd, hx, Int.reduceToNat, List.getElem?_cons_zero, List.getElem?_cons_succ, Option.getD_some] <;> omega) | exact Nat.le_of_ble_eq_true rfl | rfl); done)); conv => whnf) | (rw [vv]; conv => whnf) | (refine NilP.mk fun nb hnb => ?_; conv => whnf))
      · have e : typD ts d (0, n, o, ss) = 12 := by rw [typD, if_pos]; exact hc
        exact krI h (by rw [typesC, firstC_bad (i := i) hi2 hlt (by rw [hx, e]; decide), hx, e])
      · exact .inr (Int.not_lt.1 hc)
      · have e : typD ts d (0, n, o, ss) = typL ts d [] ss := by rw [typD, if_neg]; rfl; assumption
        exact krI h (by rw [typesC, firstC_bad (i := i) hi2 hlt (by rw [hx, e]; exact hc), hx, e])
      · have e : typD ts d (0, n, o, ss) = typL ts d [] ss := by rw [typD, if_neg]; rfl; assumption
        refine eqI (rec (i + 1) ⟨by omega, lt_succ_split hi2 (by rw [hx, e]; exact hc)⟩ (by omega)) ?_
        rw [wrapS (by omega)]
      · omega
    · (conv => whnf); repeat' (first | ((first | refine bdec ?_ ?_ | refine bnot ?_ ?_ | refine bsel_intro ?_ ?_ | skip) <;> intro hc <;> (try simp (disch := omega) only [nm, nq, dArgDefs_len, dFieldDefs_len, dTypeDefs_len, dArgDefs_0, dArgDefs_1, dFieldDefs_0, dFieldDefs_1, dFieldDefs_2, dFieldDefs_3, dFieldDefs_4, dTypeDefs_0, dTypeDefs_1, Nat.reduceAdd, hx, Int.reduceToNat, List.getElem?_cons_zero, List.getElem?_cons_succ, Option.getD_some, wrapI] at hc) <;> conv => whnf) | (refine .head _ rfl (by kernel_rfl) ?_; conv => whnf) | (refine aheadAtB 178 (by kernel_rfl) (by kernel_rfl) ?_; conv => whnf) | (refine PAnd.mk ?_ ?_ <;> conv => whnf) | exact PTrue.mk | (refine .head _ rfl (by kernel_rfl) ?_; conv => whnf) | (refine w30 ?_; conv => whnf) | (refine (fun hq hr => wpArgs (xs' := [cSch ts, cDoc d, .d (.str tQu), .d (dSS ss)]) (by simp only [nm, nq, dArgDefs_len, dFieldDefs_len, dTypeDefs_len, dArgDefs_0, dArgDefs_1, dFieldDefs_0, dFieldDefs_1, dFieldDefs_2, dFieldDefs_3, dFieldDefs_4, dTypeDefs_0, dTypeDefs_1, Nat.reduceAdd, hx, Int.reduceToNat, List.getElem?_cons_zero, List.getElem?_cons_succ, Option.getD_some] <;> rfl) (w202 ht (qCnt ss + 1) (Nat.lt_succ_self _) hq hr)) ?_ ?_ <;> conv => whnf) | (apply pcall; (focus (intro _ _ hk; first | exact w30 hk | exact (fun hq hr => wpArgs (xs' := [cSch ts, cDoc d, .d (.str tQu), .d (dSS ss)]) (by simp only [nm, nq, dArgDefs_len, dFieldDefs_len, dTypeDefs_len, dArgDefs_0, dArgDefs_1, dFieldDefs_0, dFieldDefs_1, dFieldDefs_2, dFieldDefs_3, dFieldDefs_4, dTypeDefs_0, dTypeDefs_1, Nat.reduceAdd, hx, Int.reduceToNat, List.getElem?_cons_zero, List.getElem?_cons_succ, Option.getD_some] <;> rfl) (w202 ht (qCnt ss + 1) (Nat.lt_succ_self _) hq hr)) ?_ ?_ hk)); conv => whnf) | (refine And.intro ?_ ?_; (focus ((first | omega | decide | (simp (disch := omega) only [nm, nq, dArgDefs_len, dFieldDefs_len, dTypeDefs_len, dArgDefs_0, dArgDefs_1, dFieldDefs_0, dFieldDefs_1, dFieldDefs_2, dFieldDefs_3, dFieldDefs_4, dTypeDefs_0, dTypeDefs_1, Nat.reduceAdd, hx, Int.reduceToNat, List.getElem?_cons_zero, List.getElem?_cons_succ, Option.getD_some, wrapI] <;> omega) | (simp [strOf, nm, nq, dArgDefs_len, dFieldDefs_len, dTypeDefs_len, dArgDefs_0, dArgDefs_1, dFieldDefs_0, dFieldDefs_1, dFieldDefs_2, dFieldDefs_3, dFieldDefs_4, dTypeDefs_0, dTypeDefs_1, Nat.reduceAdd, hx, Int.reduceToNat, List.getElem?_cons_zero, List.getElem?_cons_succ, Option.getD_some] <;> omega) | exact Nat.le_of_ble_eq_true rfl | rfl); done)); conv => whnf) | (rw [vv]; conv => whnf) | (refine NilP.mk fun nb hnb => ?_; conv => whnf))
      · have e : typD ts d (1, n, o, ss) = 12 := by rw [typD, if_pos]; exact hc
        exact krI h (by rw [typesC, firstC_bad (i := i) hi2 hlt (by rw [hx, e]; decide), hx, e])
      · exact .inr (Int.not_lt.1 hc)
      · have e : typD ts d (1, n, o, ss) = typL ts d tQu ss := by rw [typD, if_neg]; rfl; assumption
        exact krI h (by rw [typesC, firstC_bad (i := i) hi2 hlt (by rw [hx, e]; exact hc), hx, e])
      · have e : typD ts d (1, n, o, ss) = typL ts d tQu ss := by rw [typD, if_neg]; rfl; assumption
        refine eqI (rec (i + 1) ⟨by omega, lt_succ_split hi2 (by rw [hx, e]; exact hc)⟩ (by omega)) ?_
        rw [wrapS (by omega)]
      · omega
    · (conv => whnf); repeat' (first | ((first | refine bdec ?_ ?_ | refine bnot ?_ ?_ | refine bsel_intro ?_ ?_ | skip) <;> intro hc <;> (try simp (disch := omega) only [nm, nq, dArgDefs_len, dFieldDefs_len, dTypeDefs_len, dArgDefs_0, dArgDefs_1, dFieldDefs_0, dFieldDefs_1, dFieldDefs_2, dFieldDefs_3, dFieldDefs_4, dTypeDefs_0, dTypeDefs_1, Nat.reduceAdd, hx, Int.reduceToNat, List.getElem?_cons_zero, List.getElem?_cons_succ, Option.getD_some, wrapI] at hc) <;> conv => whnf) | (refine .head _ rfl (by kernel_rfl) ?_; conv => whnf) | (refine aheadAtB 178 (by kernel_rfl) (by kernel_rfl) ?_; conv => whnf) | (refine PAnd.mk ?_ ?_ <;> conv => whnf) | exact PTrue.mk | (refine .head _ rfl (by kernel_rfl) ?_; conv => whnf) | (refine w30 ?_; conv => whnf) | (refine (fun hq hr => wpArgs (xs' := [cSch ts, cDoc d, .d (.str tMu), .d (dSS ss)]) (by simp only [nm, nq, dArgDefs_len, dFieldDefs_len, dTypeDefs_len, dArgDefs_0, dArgDefs_1, dFieldDefs_0, dFieldDefs_1, dFieldDefs_2, dFieldDefs_3, dFieldDefs_4, dTypeDefs_0, dTypeDefs_1, Nat.reduceAdd, hx, Int.reduceToNat, List.getElem?_cons_zero, List.getElem?_cons_succ, Option.getD_some] <;> rfl) (w202 ht (qCnt ss + 1) (Nat.lt_succ_self _) hq hr)) ?_ ?_ <;> conv => whnf) | (apply pcall; (focus (intro _ _ hk; first | exact w30 hk | exact (fun hq hr => wpArgs (xs' := [cSch ts, cDoc d, .d (.str tMu), .d (dSS ss)]) (by simp only [nm, nq, dArgDefs_len, dFieldDefs_len, dTypeDefs_len, dArgDefs_0, dArgDefs_1, dFieldDefs_0, dFieldDefs_1, dFieldDefs_2, dFieldDefs_3, dFieldDefs_4, dTypeDefs_0, dTypeDefs_1, Nat.reduceAdd, hx, Int.reduceToNat, List.getElem?_cons_zero, List.getElem?_cons_succ, Option.getD_some] <;> rfl) (w202 ht (qCnt ss + 1) (Nat.lt_succ_self _) hq hr)) ?_ ?_ hk)); conv => whnf) | (refine And.intro ?_ ?_; (focus ((first | omega | decide | (simp (disch := omega) only [nm, nq, dArgDefs_len, dFieldDefs_len, dTypeDefs_len, dArgDefs_0, dArgDefs_1, dFieldDefs_0, dFieldDefs_1, dFieldDefs_2, dFieldDefs_3, dFieldDefs_4, dTypeDefs_0, dTypeDefs_1, Nat.reduceAdd, hx, Int.reduceToNat, List.getElem?_cons_zero, List.getElem?_cons_succ, Option.getD_some, wrapI] <;> omega) | (simp [strOf, nm, nq, dArgDefs_len, dFieldDefs_len, dTypeDefs_len, dArgDefs_0, dArgDefs_1, dFieldDefs_0, dFieldDefs_1, dFieldDefs_2, dFieldDefs_3, dFieldDefs_4, dTypeDefs_0, dTypeDefs_1, Nat.reduceAdd, hx, Int.reduceToNat, List.getElem?_cons_zero, List.getElem?_cons_succ, Option.getD_some] <;> omega) | exact Nat.le_of_ble_eq_true rfl | rfl); done)); conv => whnf) | (rw [vv]; conv => whnf) | (refine NilP.mk fun nb hnb => ?_; conv => whnf))
      · have e : typD ts d (2, n, o, ss) = 12 := by rw [typD, if_pos]; exact hc
        exact krI h (by rw [typesC, firstC_bad (i := i) hi2 hlt (by rw [hx, e]; decide), hx, e])
      · exact .inr (Int.not_lt.1 hc)
      · have e : typD ts d (2, n, o, ss) = typL ts d tMu ss := by rw [typD, if_neg]; rfl; assumption
        exact krI h (by rw [typesC, firstC_bad (i := i) hi2 hlt (by rw [hx, e]; exact hc), hx, e])
      · have e : typD ts d (2, n, o, ss) = typL ts d tMu ss := by rw [typD, if_neg]; rfl; assumption
        refine eqI (rec (i + 1) ⟨by omega, lt_succ_split hi2 (by rw [hx, e]; exact hc)⟩ (by omega)) ?_
        rw [wrapS (by omega)]
      · omega
    · (conv => whnf); repeat' (first | ((first | refine bdec ?_ ?_ | refine bnot ?_ ?_ | refine bsel_intro ?_ ?_ | skip) <;> intro hc <;> (try simp (disch := omega) only [nm, nq, dArgDefs_len, dFieldDefs_len, dTypeDefs_len, dArgDefs_0, dArgDefs_1, dFieldDefs_0, dFieldDefs_1, dFieldDefs_2, dFieldDefs_3, dFieldDefs_4, dTypeDefs_0, dTypeDefs_1, Nat.reduceAdd, hx, Int.reduceToNat, List.getElem?_cons_zero, List.getElem?_cons_succ, Option.getD_some, wrapI] at hc) <;> conv => whnf) | (refine .head _ rfl (by kernel_rfl) ?_; conv => whnf) | (refine aheadAtB 178 (by kernel_rfl) (by kernel_rfl) ?_; conv => whnf) | (refine PAnd.mk ?_ ?_ <;> conv => whnf) | exact PTrue.mk | (refine .head _ rfl (by kernel_rfl) ?_; conv => whnf) | (refine w30 ?_; conv => whnf) | (refine (fun hq hr => wpArgs (xs' := [cSch ts, cDoc d, .d (.str o), .d (dSS ss)]) (by simp only [nm, nq, dArgDefs_len, dFieldDefs_len, dTypeDefs_len, dArgDefs_0, dArgDefs_1, dFieldDefs_0, dFieldDefs_1, dFieldDefs_2, dFieldDefs_3, dFieldDefs_4, dTypeDefs_0, dTypeDefs_1, Nat.reduceAdd, hx, Int.reduceToNat, List.getElem?_cons_zero, List.getElem?_cons_succ, Option.getD_some] <;> rfl) (w202 ht (qCnt ss + 1) (Nat.lt_succ_self _) hq hr)) ?_ ?_ <;> conv => whnf) | (apply pcall; (focus (intro _ _ hk; first | exact w30 hk | exact (fun hq hr => wpArgs (xs' := [cSch ts, cDoc d, .d (.str o), .d (dSS ss)]) (by simp only [nm, nq, dArgDefs_len, dFieldDefs_len, dTypeDefs_len, dArgDefs_0, dArgDefs_1, dFieldDefs_0, dFieldDefs_1, dFieldDefs_2, dFieldDefs_3, dFieldDefs_4, dTypeDefs_0, dTypeDefs_1, Nat.reduceAdd, hx, Int.reduceToNat, List.getElem?_cons_zero, List.getElem?_cons_succ, Option.getD_some] <;> rfl) (w202 ht (qCnt ss + 1) (Nat.lt_succ_self _) hq hr)) ?_ ?_ hk)); conv => whnf) | (refine And.intro ?_ ?_; (focus ((first | omega | decide | (simp (disch := omega) only [nm, nq, dArgDefs_len, dFieldDefs_len, dTypeDefs_len, dArgDefs_0, dArgDefs_1, dFieldDefs_0, dFieldDefs_1, dFieldDefs_2, dFieldDefs_3, dFieldDefs_4, dTypeDefs_0, dTypeDefs_1, Nat.reduceAdd, hx, Int.reduceToNat, List.getElem?_cons_zero, List.getElem?_cons_succ, Option.getD_some, wrapI] <;> omega) | (simp [strOf, nm, nq, dArgDefs_len, dFieldDefs_len, dTypeDefs_len, dArgDefs_0, dArgDefs_1, dFieldDefs_0, dFieldDefs_1, dFieldDefs_2, dFieldDefs_3, dFieldDefs_4, dTypeDefs_0, dTypeDefs_1, Nat.reduceAdd, hx, Int.reduceToNat, List.getElem?_cons_zero, List.getElem?_cons_succ, Option.getD_some] <;> omega) | exact Nat.le_of_ble_eq_true rfl | rfl); done)); conv => whnf) | (rw [vv]; conv => whnf) | (refine NilP.mk fun nb hnb => ?_; conv => whnf))
      · have e : typD ts d (3, n, o, ss) = 12 := by rw [typD, if_pos]; exact hc
        exact krI h (by rw [typesC, firstC_bad (i := i) hi2 hlt (by rw [hx, e]; decide), hx, e])
      · exact .inr (Int.not_lt.1 hc)
      · have e : typD ts d (3, n, o, ss) = typL ts d o ss := by rw [typD, if_neg]; rfl; assumption
        exact krI h (by rw [typesC, firstC_bad (i := i) hi2 hlt (by rw [hx, e]; exact hc), hx, e])
      · have e : typD ts d (3, n, o, ss) = typL ts d o ss := by rw [typD, if_neg]; rfl; assumption
        refine eqI (rec (i + 1) ⟨by omega, lt_succ_split hi2 (by rw [hx, e]; exact hc)⟩ (by omega)) ?_
        rw [wrapS (by omega)]
      · omega
  · (conv => whnf); repeat' (first | ((first | refine bdec ?_ ?_ | refine bnot ?_ ?_ | refine bsel_intro ?_ ?_ | skip) <;> intro hc <;> (try simp (disch := omega) only [nm, nq, dArgDefs_len, dFieldDefs_len, dTypeDefs_len, dArgDefs_0, dArgDefs_1, dFieldDefs_0, dFieldDefs_1, dFieldDefs_2, dFieldDefs_3, dFieldDefs_4, dTypeDefs_0, dTypeDefs_1, Nat.reduceAdd, wrapI] at hc) <;> conv => whnf) | (refine .head _ rfl (by kernel_rfl) ?_; conv => whnf) | (refine And.intro ?_ ?_; (focus ((first | omega | decide | (simp (disch := omega) only [nm, nq, dArgDefs_len, dFieldDefs_len, dTypeDefs_len, dArgDefs_0, dArgDefs_1, dFieldDefs_0, dFieldDefs_1, dFieldDefs_2, dFieldDefs_3, dFieldDefs_4, dTypeDefs_0, dTypeDefs_1, Nat.reduceAdd, wrapI] <;> omega) | (simp [strOf, nm, nq, dArgDefs_len, dFieldDefs_len, dTypeDefs_len, dArgDefs_0, dArgDefs_1, dFieldDefs_0, dFieldDefs_1, dFieldDefs_2, dFieldDefs_3, dFieldDefs_4, dTypeDefs_0, dTypeDefs_1, Nat.reduceAdd] <;> omega) | exact Nat.le_of_ble_eq_true rfl | rfl); done)); conv => whnf) | (rw [vv]; conv => whnf) | (refine NilP.mk fun nb hnb => ?_; conv => whnf))
    · omega
    · exact krI h (firstC_ok fun j hj => hi2 j (by omega))
end Go.Proofs.SL
set_option linter.unusedVariables false
set_option linter.unusedSimpArgs false
set_option maxRecDepth 100000
set_option maxHeartbeats 8000000
namespace Go.Proofs.SL
open Go Go.Proofs Go.Proofs.EN Go.Proofs.VT
variable {T : Tabs}
/-! ### Limits -/
def nxt (d : QDoc) (x : QSel) : List QSel := if x.kind = 2 then (fragD d x.name).2.2.2 else x.sels
def bitF (x : QSel) : Nat := if x.kind = 1 then 1 else 0
def lefL (d : QDoc) (rec : Nat → List QSel → Int → Int × Bool) (deep : Nat) : List QSel → Int → Int × Bool
  | [], l => (l, true)
  | x :: r, l => if l < 0 then (l, true) else if l - 1 < 0 then (l - 1, true) else
    if (rec (deep - bitF x) (nxt d x) (l - 1)).2 then lefL d rec deep r (rec (deep - bitF x) (nxt d x) (l - 1)).1 else ((rec (deep - bitF x) (nxt d x) (l - 1)).1, false)
def lef (d : QDoc) : Nat → Nat → List QSel → Int → Int × Bool
  | 0, _, _, l => (l, true)
  | N + 1, deep, ss, l => if deep = 0 ∧ ss ≠ [] then (l, false) else lefL d (lef d N) deep ss l
theorem lefL_bd {d : QDoc} {rec : Nat → List QSel → Int → Int × Bool} (hr : ∀ k ss l, -1 ≤ l → -1 ≤ (rec k ss l).1 ∧ (rec k ss l).1 ≤ l) {deep : Nat} : ∀ {ss : List QSel} {l : Int}, -1 ≤ l → -1 ≤ (lefL d rec deep ss l).1 ∧ (lefL d rec deep ss l).1 ≤ l
  | [], l, h => by rw [lefL]; exact ⟨h, Int.le_refl _⟩
  | x :: r, l, h => by
    rw [lefL]
    have h1 := fun (h : -1 ≤ l - 1) => hr (deep - bitF x) (nxt d x) (l - 1) h
    split
    · exact ⟨h, Int.le_refl _⟩
    split
    · exact ⟨by show -1 ≤ l - 1; omega, by show l - 1 ≤ l; omega⟩
    have h1 := h1 (by omega)
    split
    · have := lefL_bd (d := d) hr (deep := deep) (ss := r) (l := (rec (deep - bitF x) (nxt d x) (l - 1)).1) (by omega)
      omega
    · exact ⟨h1.1, by show (rec (deep - bitF x) (nxt d x) (l - 1)).1 ≤ l; omega⟩
theorem lef_bd {d : QDoc} : ∀ {N deep : Nat} {ss : List QSel} {l : Int}, -1 ≤ l → -1 ≤ (lef d N deep ss l).1 ∧ (lef d N deep ss l).1 ≤ l
  | 0, deep, ss, l, h => by rw [lef]; exact ⟨h, Int.le_refl _⟩
  | N + 1, deep, ss, l, h => by
    rw [lef]
    split
    · exact ⟨h, Int.le_refl _⟩
    · exact lefL_bd (d := d) (fun k ss l h => lef_bd h) h
theorem lefL_neg {d : QDoc} {rec : Nat → List QSel → Int → Int × Bool} {deep : Nat} {ss : List QSel} {l : Int} (h : l < 0) : lefL d rec deep ss l = (l, true) := by
  cases ss with
  | nil => rw [lefL]
  | cons x r => rw [lefL, if_pos h]
theorem loopOf2 {α β : Type} {step : St → (Ex → St → R) → R} {nm : St → Option St} {K : Ex → St → R} {s : St} (mk : α → β → St) (P : α → β → Prop) (μ : α → β → Nat) (a : α) (b : β) (e : s = mk a b) (h : P a b)
    (hs : ∀ a b (I : St → R), P a b → (∀ a' b', P a' b' → μ a' b' < μ a b → I (mk a' b')) → roundP step nm (mk a b) I K) : LoopP step nm s K :=
  loopOf (fun s : α × β => mk s.1 s.2) (fun s => P s.1 s.2) (fun s => μ s.1 s.2) (a, b) e h fun s I hp rec => hs s.1 s.2 I hp fun a' b' => rec (a', b')
theorem w206 {d : QDoc} : ∀ (N : Nat) {deep : Nat} {ss : List QSel} {l : Int} {Kr Kp : C → List Ob → R}, 0 ≤ l → l < N → N ≤ 1000 → deep ≤ 1000 → (h : Kr (.tuple [.d (.int .i64 (lef d N deep ss l).1), .d (.bool (lef d N deep ss l).2)]) []) → Wp T Tryz.prog tt 206 [cDoc d, .d (dSS ss), .d (.int .i64 (deep : Int)), .d (.int .i64 l)] [] Kr Kp := by
  intro N
  induction N with
  | zero =>
    intro deep ss l Kr Kp h1 h2 h3 h4 h
    omega
  | succ N ih =>
    intro deep ss l Kr Kp h1 h2 h3 h4 h
    refine go (k := 206) (own := true) (cap := .deep) Tryz.func206 (by kernel_rfl) ?_
    (conv => whnf); repeat' (first | ((first | refine bdec ?_ ?_ | refine bnot ?_ ?_ | refine bsel_intro ?_ ?_ | skip) <;> intro hc <;> (try simp (disch := omega) only [nm, nq, Nat.reduceAdd, wrapI] at hc) <;> conv => whnf) | (refine .head _ rfl (by kernel_rfl) ?_; conv => whnf) | (refine And.intro ?_ ?_; (focus ((first | omega | decide | (simp (disch := omega) only [nm, nq, Nat.reduceAdd, wrapI] <;> omega) | (simp [strOf, nm, nq, Nat.reduceAdd] <;> omega) | exact Nat.le_of_ble_eq_true rfl | rfl); done)); conv => whnf) | (rw [vv]; conv => whnf) | (refine NilP.mk fun nb hnb => ?_; conv => whnf))
    · have e : lef d (N + 1) deep ss l = (l, false) := by rw [lef, if_pos ⟨by omega, fun e => by rw [e] at hc; simp at hc⟩]
      rw [e] at h; exact h
    all_goals
      have e : lef d (N + 1) deep ss l = lefL d (lef d N) deep ss l := by
        rw [lef, if_neg]
        intro ⟨e1, e2⟩
        first | omega | exact e2 (List.eq_nil_of_length_eq_zero (by omega))
      rw [e] at h
      clear e
      refine loopOf2 (fun (i : Nat) (m : Int) => ⟨[(1, .d (dSS ss)), (2, .d (.int .i64 (deep : Int))), (3, .d (.int .i64 m)), (4, .ref 0 0), (10, .d (.int .i64 (i : Int)))], [.box [.d (.list 192 (dQDefs 222 237 201 d))]]⟩) (fun i m => i ≤ ss.length ∧ -1 ≤ m ∧ m ≤ l ∧ lefL d (lef d N) deep ss l = lefL d (lef d N) deep (ss.drop i) m) (fun i m => ss.length - i) 0 l rfl ⟨Nat.zero_le _, by omega, Int.le_refl _, rfl⟩ ?_
      intro i m I ⟨hi1, hi2, hi3, hi4⟩ rec
      obtain ⟨x, hx⟩ : ∃ x, (ss[i]?).getD default = x := ⟨_, rfl⟩
      have hdr : i < ss.length → ss.drop i = x :: ss.drop (i + 1) := fun h => by
        rw [List.drop_eq_getElem_cons h]
        have := of_getD hx h
        rw [List.getElem?_eq_getElem h] at this
        rw [Option.some.inj this]
      have hd0 : i < ss.length → 0 < deep := fun h => by omega
      have hb : (bitF x = 1 ∧ x.kind = 1 ∧ x.sels = nxt d x) ∨ (bitF x = 0 ∧ x.kind ≠ 1) := by
        unfold bitF nxt
        by_cases h : x.kind = 1 <;> simp [h]
      obtain ⟨r, hr⟩ : ∃ r, lef d N (deep - bitF x) (nxt d x) (m - 1) = r := ⟨_, rfl⟩
      have hbd : -1 ≤ m - 1 → -1 ≤ r.1 ∧ r.1 ≤ m - 1 := fun hl => hr ▸ lef_bd hl
      have n1 : x.kind = 2 → nxt d x = (fragD d x.name).2.2.2 := fun h => by rw [nxt, if_pos h]
      have n2 : ¬ x.kind = 2 → nxt d x = x.sels := fun h => by rw [nxt, if_neg h]
      have hw : i < ss.length → IntKind.i64.wrap ((deep : Int) - if decide (x.kind = 1) = true then 1 else 0) = ((deep - bitF x : Nat) : Int) := fun h => by
        have := hd0 h
        rcases hb with ⟨e1, e2, _⟩ | ⟨e1, e2⟩
        · rw [e1, e2, wrapI (by simp; omega) (by simp; omega)]; simp; omega
        · rw [e1, if_neg (by simpa using e2), wrapI (by omega) (by omega)]; omega
      have r1 : m < 0 → lefL d (lef d N) deep ss l = (m, true) := fun h => by rw [hi4, lefL_neg h]
      have r2 : ¬ i < ss.length → lefL d (lef d N) deep ss l = (m, true) := fun h => by rw [hi4, List.drop_eq_nil_of_le (by omega), lefL]
      have r3 : i < ss.length → 0 ≤ m → m - 1 < 0 → lefL d (lef d N) deep ss l = (m - 1, true) := fun h1 h2 h3 => by rw [hi4, hdr h1, lefL, if_neg (by omega), if_pos h3]
      have r4 : i < ss.length → 0 ≤ m → ¬ m - 1 < 0 → r.2 = false → lefL d (lef d N) deep ss l = (r.1, false) := fun h1 h2 h3 h4 => by rw [hi4, hdr h1, lefL, if_neg (by omega), if_neg h3, hr, h4]; rfl
      have r5 : i < ss.length → 0 ≤ m → ¬ m - 1 < 0 → r.2 = true → lefL d (lef d N) deep ss l = lefL d (lef d N) deep (ss.drop (i + 1)) r.1 := fun h1 h2 h3 h4 => by rw [hi4, hdr h1, lefL, if_neg (by omega), if_neg h3, hr, if_pos h4]
      (conv => whnf); repeat' (first | ((first | refine bdec ?_ ?_ | refine bnot ?_ ?_ | refine bsel_intro ?_ ?_ | skip) <;> intro hc <;> (try simp (disch := omega) only [nm, nq, Nat.reduceAdd, hx, wrapI] at hc) <;> conv => whnf) | (refine .head _ rfl (by kernel_rfl) ?_; conv => whnf) | (refine aheadAtB 206 (by kernel_rfl) (by kernel_rfl) ?_; conv => whnf) | (refine PAnd.mk ?_ ?_ <;> conv => whnf) | exact PTrue.mk | (refine .head _ rfl (by kernel_rfl) ?_; conv => whnf) | (refine w50 ?_; conv => whnf) | (refine w204 ?_; conv => whnf) | (refine (fun h1 hq => wpArgs (xs' := [cDoc d, .d (dSS (nxt d x)), .d (.int .i64 ((deep - bitF x : Nat) : Int)), .d (.int .i64 (m - 1))]) h1 (ih (by omega) (by omega) (by omega) (by omega) hq)) ?_ ?_ <;> conv => whnf) | (apply pcall; (focus (intro _ _ hk; first | exact w50 hk | exact w204 hk | exact (fun h1 hq => wpArgs (xs' := [cDoc d, .d (dSS (nxt d x)), .d (.int .i64 ((deep - bitF x : Nat) : Int)), .d (.int .i64 (m - 1))]) h1 (ih (by omega) (by omega) (by omega) (by omega) hq)) ?_ ?_ hk)); conv => whnf) | (refine And.intro ?_ ?_; (focus ((first | omega | decide | (simp (disch := omega) only [nm, nq, Nat.reduceAdd, hx, wrapI] <;> omega) | (simp [strOf, nm, nq, Nat.reduceAdd, hx] <;> omega) | exact Nat.le_of_ble_eq_true rfl | rfl); done)); conv => whnf) | (rw [vv]; conv => whnf) | (refine NilP.mk fun nb hnb => ?_; conv => whnf))
      all_goals try rw [hr] at *
      all_goals first
        | (simp only [nm, nq, Nat.reduceAdd, hx]; rw [hw (by omega), wrapI (by omega) (by omega)]; first | rw [n1 ‹_›] | rw [n2 ‹_›])
        | (rw [r3 (by omega) (by omega) (by omega)] at h; rw [wrapI (by omega) (by omega)]; exact h)
        | (rw [r4 (by omega) (by omega) (by omega) (by simpa using hc)] at h; exact h)
        | (refine eqI (rec (i + 1) r.1 ⟨by omega, (hbd (by omega)).1, by have := (hbd (by omega)).2; omega, r5 (by omega) (by omega) (by omega) (by simpa using hc)⟩ (by omega)) ?_; rw [wrapS (by omega)])
        | (rw [r1 (by omega)] at h; exact h)
        | (rw [r2 (by omega)] at h; exact h)
def limD (d : QDoc) (x : QDef) : Int := if (lef d 401 12 x.2.2.2 400).2 = false then 8 else if (lef d 401 12 x.2.2.2 400).1 < 0 then 6 else 0
def limC (d : QDoc) : Int := firstC (limD d) d
theorem w180 {d : QDoc} {Kr Kp : C → List Ob → R} (h : Kr (.d (.int .i64 (limC d))) []) : Wp T Tryz.prog tt 180 [cDoc d] [] Kr Kp := by
  refine go (k := 180) (own := true) (cap := .deep) Tryz.func180 (by kernel_rfl) ?_
  (conv => whnf); repeat' (first | ((first | refine bdec ?_ ?_ | refine bnot ?_ ?_ | refine bsel_intro ?_ ?_ | skip) <;> intro hc <;> (try simp (disch := omega) only [nm, nq, Nat.reduceAdd, wrapI] at hc) <;> conv => whnf) | (refine .head _ rfl (by kernel_rfl) ?_; conv => whnf) | (refine And.intro ?_ ?_; (focus ((first | omega | decide | (simp (disch := omega) only [nm, nq, Nat.reduceAdd, wrapI] <;> omega) | (simp [strOf, nm, nq, Nat.reduceAdd] <;> omega) | exact Nat.le_of_ble_eq_true rfl | rfl); done)); conv => whnf) | (rw [vv]; conv => whnf) | (refine NilP.mk fun nb hnb => ?_; conv => whnf))
  refine loopOf (fun i : Nat => ⟨[(1, .ref 0 0), (3, .d (.int .i64 (i : Int)))], [.box [.d (.list 192 (dQDefs 222 237 201 d))]]⟩) (fun i => i ≤ d.length ∧ ∀ j, j < i → limD d ((d[j]?).getD default) = 0) (fun i => d.length - i) 0 rfl ⟨by omega, fun j hj => by omega⟩ ?_
  intro i I hi rec
  obtain ⟨hi1, hi2⟩ := hi
  obtain ⟨x, hx⟩ : ∃ x, (d[i]?).getD default = x := ⟨_, rfl⟩
  (conv => whnf); repeat' (first | ((first | refine bdec ?_ ?_ | refine bnot ?_ ?_ | refine bsel_intro ?_ ?_ | skip) <;> intro hc <;> (try simp (disch := omega) only [nm, nq, Nat.reduceAdd, hx, wrapI] at hc) <;> conv => whnf) | (refine .head _ rfl (by kernel_rfl) ?_; conv => whnf) | (refine (fun hq => wpArgs (xs' := [cDoc d, .d (dSS x.2.2.2), .d (.int .i64 ((12 : Nat) : Int)), .d (.int .i64 400)]) (by simp only [nm, nq, Nat.reduceAdd, hx]; rfl) (w206 401 (by omega) (by omega) (by omega) (by omega) hq)) ?_; conv => whnf) | (apply pcall; (focus (intro _ _ hk; first | exact (fun hq => wpArgs (xs' := [cDoc d, .d (dSS x.2.2.2), .d (.int .i64 ((12 : Nat) : Int)), .d (.int .i64 400)]) (by simp only [nm, nq, Nat.reduceAdd, hx]; rfl) (w206 401 (by omega) (by omega) (by omega) (by omega) hq)) hk)); conv => whnf) | (refine And.intro ?_ ?_; (focus ((first | omega | decide | (simp (disch := omega) only [nm, nq, Nat.reduceAdd, hx, wrapI] <;> omega) | (simp [strOf, nm, nq, Nat.reduceAdd, hx] <;> omega) | exact Nat.le_of_ble_eq_true rfl | rfl); done)); conv => whnf) | (rw [vv]; conv => whnf) | (refine NilP.mk fun nb hnb => ?_; conv => whnf))
  · have e : limD d x = 8 := by rw [limD, if_pos (by simpa using hc)]
    exact krI h (by rw [limC, firstC_bad (i := i) hi2 (by omega) (by rw [hx, e]; decide), hx, e])
  · have hc1 : (!(lef d 401 12 x.2.2.2 400).2) = false := ‹_›
    have e : limD d x = 6 := by rw [limD, if_neg (by simpa using hc1), if_pos hc]
    exact krI h (by rw [limC, firstC_bad (i := i) hi2 (by omega) (by rw [hx, e]; decide), hx, e])
  · have hc1 : (!(lef d 401 12 x.2.2.2 400).2) = false := ‹_›
    have e : limD d x = 0 := by rw [limD, if_neg (by simpa using hc1), if_neg hc]
    refine eqI (rec (i + 1) ⟨by omega, lt_succ_split hi2 (by rw [hx]; exact e)⟩ (by omega)) ?_
    rw [wrapS (by omega)]
  · exact krI h (firstC_ok fun j hj => hi2 j (by omega))
end Go.Proofs.SL
set_option linter.unusedVariables false
set_option linter.unusedSimpArgs false
set_option maxRecDepth 100000
set_option maxHeartbeats 8000000
namespace Go.Proofs.SL
open Go Go.Proofs Go.Proofs.EN Go.Proofs.VT
variable {T : Tabs}
/-- What reading does to a reader. -/
abbrev stp (tk : List Tok) (a : Int) (o : Bool) (a' : Int) (o' : Bool) : Prop := a ≤ a' ∧ (a' = a ∨ a' ≤ tk.length) ∧ (o' = true → o = true)
theorem w236 {tk : List Tok} {a : Int} {o p : Bool} {Kr Kp : C → List Ob → R} (ht : tk.length ≤ 5000) (ha : 0 ≤ a ∧ a ≤ 5001) (h : ∀ xs a' o', stp tk a o a' o' → xs.length ≤ 6000 → ∀ ver, Kr (.row 1) [oQ tk a' o' p, .row 222 .deep ver (dQArgs xs)]) : Wp T Tryz.prog tt 236 [.ref 0 0] [oQ tk a o p] Kr Kp := by
  refine go (k := 236) (own := true) (cap := .deep) Tryz.func236 (by kernel_rfl) ?_
  (conv => whnf); repeat' (first | ((first | refine bdec ?_ ?_ | refine bnot ?_ ?_ | refine bsel_intro ?_ ?_ | skip) <;> intro hc <;> (try simp (disch := omega) only [nm, nq, dToks_len, dToks_0, dToks_1, dToks_2, Nat.reduceAdd, wrapI] at hc) <;> conv => whnf) | (refine .head _ rfl (by kernel_rfl) ?_; conv => whnf) | (refine w229 (by omega) (fun _ => ?_) ?_ <;> conv => whnf) | (apply pcall; (focus (intro _ _ hk; first | exact w229 (by omega) (fun _ => ?_) ?_ hk)); conv => whnf) | (refine And.intro ?_ ?_; (focus ((first | omega | decide | (simp (disch := omega) only [nm, nq, dToks_len, dToks_0, dToks_1, dToks_2, Nat.reduceAdd, wrapI] <;> omega) | (simp [strOf, nm, nq, dToks_len, dToks_0, dToks_1, dToks_2, Nat.reduceAdd] <;> omega) | exact Nat.le_of_ble_eq_true rfl | rfl); done)); conv => whnf) | (rw [vv]; conv => whnf) | (refine NilP.mk fun nb hnb => ?_; conv => whnf))
  rotate_left
  · exact h [] a o ⟨by omega, .inl rfl, id⟩ (by simp) 0
  · rename_i hlt
    refine loopOf3 (fun (b : Int) (q : Bool) (xs : List QArg) => ⟨[(0, .ref 0 0), (3, .row 1)], [oQ tk b q p, .row 222 .deep 0 (dQArgs xs)]⟩) (fun b q xs => stp tk (a + 1) o b q ∧ (xs.length : Int) + (if q then 0 else -1) ≤ b - a) (fun b q xs => if q then (6000 - b).toNat else 0) (a + 1) o [] rfl ⟨⟨by omega, .inl rfl, id⟩, by cases o <;> simp <;> omega⟩ ?_
    intro b q xs I ⟨⟨h1, h2, h3⟩, h4⟩ rec
    have hb : b ≤ 5001 := by omega
    cases q
    · simp only [Bool.false_eq_true, if_false] at h4
      (conv => whnf); repeat' (first | ((first | refine bdec ?_ ?_ | refine bnot ?_ ?_ | refine bsel_intro ?_ ?_ | skip) <;> intro hc <;> (try simp (disch := omega) only [nm, nq, dToks_len, dToks_0, dToks_1, dToks_2, Nat.reduceAdd, wrapI] at hc) <;> conv => whnf) | (refine .head _ rfl (by kernel_rfl) ?_; conv => whnf) | (refine And.intro ?_ ?_; (focus ((first | omega | decide | (simp (disch := omega) only [nm, nq, dToks_len, dToks_0, dToks_1, dToks_2, Nat.reduceAdd, wrapI] <;> omega) | (simp [strOf, nm, nq, dToks_len, dToks_0, dToks_1, dToks_2, Nat.reduceAdd] <;> omega) | exact Nat.le_of_ble_eq_true rfl | rfl); done)); conv => whnf) | (rw [vv]; conv => whnf) | (refine NilP.mk fun nb hnb => ?_; conv => whnf))
      exact h xs b false ⟨by omega, by omega, fun e => by cases e⟩ (by omega) 0
    · simp only [if_true] at h4
      have ho : o = true := h3 rfl
      have key : ∀ (b' : Int) (q' : Bool) (nm : Str) (k n : Int) (s : Str), b ≤ b' → (b' = b ∨ b' ≤ tk.length) → (q' = true → b < b') → I ⟨[(0, .ref 0 0), (3, .row 1)], [oQ tk b' q' p, .row 222 .deep 0 (dQArgs xs ++ [[.str nm, .int .i64 k, .int .i64 n, .str s]])]⟩ := fun b' q' nm k n s e1 e2 e3 => by
        refine eqI (rec b' q' (xs ++ [(nm, k, n, s)]) ⟨⟨by omega, by omega, fun _ => ho⟩, ?_⟩ ?_) ?_
        · cases q'
          · simp only [List.length_append, List.length_cons, List.length_nil, Bool.false_eq_true, if_false]; omega
          · have := e3 rfl; simp only [List.length_append, List.length_cons, List.length_nil, if_true]; omega
        · cases q'
          · simp only [if_true, Bool.false_eq_true, if_false]; omega
          · have := e3 rfl; simp only [if_true]; omega
        · simp [dQArgs, dQArg]
      (conv => whnf); repeat' (first | ((first | refine bdec ?_ ?_ | refine bnot ?_ ?_ | refine bsel_intro ?_ ?_ | skip) <;> intro hc <;> (try simp (disch := omega) only [nm, nq, dToks_len, dToks_0, dToks_1, dToks_2, Nat.reduceAdd, wrapI] at hc) <;> conv => whnf) | (refine .head _ rfl (by kernel_rfl) ?_; conv => whnf) | (refine aheadAtB 236 (by kernel_rfl) (by kernel_rfl) ?_; conv => whnf) | (refine PAnd.mk ?_ ?_ <;> conv => whnf) | exact PTrue.mk | (refine .head _ rfl (by kernel_rfl) ?_; conv => whnf) | (refine w229 (by omega) (fun _ => ?_) ?_ <;> conv => whnf) | (refine w211 (by omega) (fun nm0 _ => ?_) ?_ <;> conv => whnf) | (refine w228 (by omega) (fun _ => ?_) ?_ <;> conv => whnf) | (refine w237 (by omega) (fun k0 n0 s0 _ => ?_) (fun k0 n0 s0 c0 hc0 => ?_) <;> conv => whnf) | (apply pcall; (focus (intro _ _ hk; first | exact w229 (by omega) (fun _ => ?_) ?_ hk | exact w211 (by omega) (fun nm0 _ => ?_) ?_ hk | exact w228 (by omega) (fun _ => ?_) ?_ hk | exact w237 (by omega) (fun k0 n0 s0 _ => ?_) (fun k0 n0 s0 c0 hc0 => ?_) hk)); conv => whnf) | (refine And.intro ?_ ?_; (focus ((first | omega | decide | (simp (disch := omega) only [nm, nq, dToks_len, dToks_0, dToks_1, dToks_2, Nat.reduceAdd, wrapI] <;> omega) | (simp [strOf, nm, nq, dToks_len, dToks_0, dToks_1, dToks_2, Nat.reduceAdd] <;> omega) | exact Nat.le_of_ble_eq_true rfl | rfl); done)); conv => whnf) | (rw [vv]; conv => whnf) | (refine NilP.mk fun nb hnb => ?_; conv => whnf))
      · exact h xs (b + 1) _ ⟨by omega, by omega, fun _ => ho⟩ (by omega) 0
      all_goals try obtain ⟨m1, m2⟩ := hc0
      all_goals exact key _ _ _ _ _ _ (by omega) (by omega) (by first | omega | (intro e; cases e))
end Go.Proofs.SL
