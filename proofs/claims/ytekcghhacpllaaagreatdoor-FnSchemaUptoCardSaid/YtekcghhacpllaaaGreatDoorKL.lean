/- Contracts of functions of this program, by the evaluator EN; part KL. No conditions but those that each theorem states. -/
import Derived.Test.YtekcghhacpllaaaGreatDoorKP
set_option linter.unusedVariables false
set_option linter.unusedSimpArgs false
set_option maxRecDepth 100000
set_option maxHeartbeats 8000000
namespace Go.Proofs.SL
open Go Go.Proofs Go.Proofs.EN Go.Proofs.VT
variable {T : Tabs}
theorem tw_len {p : UInt8 → Bool} : ∀ {t : Str} {i : Nat}, (∀ j, j < i → p (t[j]?.getD 0) = true) → i ≤ t.length → (i = t.length ∨ p (t[i]?.getD 0) = false) → (t.takeWhile p).length = i
  | [], i, _, hi, _ => by simp at hi; simp [hi]
  | c :: t, 0, _, _, h => by
    rcases h with h | h
    · cases h
    · simp at h; simp [h]
  | c :: t, i + 1, hy, hi, h => by
    have h0 : p c = true := by simpa using hy 0 (by omega)
    simp only [List.takeWhile_cons, h0, if_true, List.length_cons]
    rw [tw_len (t := t) (i := i) (fun j hj => by simpa using hy (j + 1) (Nat.succ_lt_succ hj)) (by simpa using hi) (by simpa using h)]
theorem wordN_eq {t : Str} {i : Nat} (h : ∀ j, j < i → wchB (t[j]?.getD 0) = true) (hi : i ≤ t.length) (hs : i = t.length ∨ wchB (t[i]?.getD 0) = false) : wordN t = i := tw_len h hi hs
theorem passN_eq {t : Str} {i : Nat} (h : ∀ j, j < i → blankB (t[j]?.getD 0) = true) (hi : i ≤ t.length) (hs : i = t.length ∨ blankB (t[i]?.getD 0) = false) : passN t = i := tw_len h hi hs
theorem w138 {t : Str} {Kr Kp : C → List Ob → R} (ht : t.length ≤ 1048576) (h : Kr (.d (.int .i64 (wordN t : Int))) []) : Wp T Tryz.prog tt 138 [.d (.str t)] [] Kr Kp := by
  refine go (k := 138) (own := true) (cap := .deep) Tryz.func138 (by kernel_rfl) ?_
  (conv => whnf); repeat' (first | ((first | refine bdec ?_ ?_ | refine bnot ?_ ?_ | refine bsel_intro ?_ ?_ | skip) <;> intro hc <;> (try simp (disch := omega) only [nm, dToks_len, dToks_0, dToks_1, dToks_2, Nat.reduceAdd, wrapI] at hc) <;> conv => whnf) | (refine .head _ rfl (by kernel_rfl) ?_; conv => whnf) | (refine And.intro ?_ ?_; (focus ((first | omega | decide | exact Nat.le_of_ble_eq_true rfl | (simp (disch := omega) only [nm, dToks_len, dToks_0, dToks_1, dToks_2, Nat.reduceAdd, wrapI] <;> omega) | (simp [strOf, nm, dToks_len, dToks_0, dToks_1, dToks_2, Nat.reduceAdd] <;> omega) | rfl); done)); conv => whnf) | (rw [vv]; conv => whnf))
  refine loopOf (fun i : Nat => ⟨[(0, .d (.str t)), (3, .d (.int .i64 (i : Int)))], []⟩) (fun i => i ≤ t.length ∧ ∀ j, j < i → wchB (t[j]?.getD 0) = true) (fun i => t.length - i) 0 rfl ⟨by omega, fun j hj => by omega⟩ ?_
  intro i I ⟨hi, hs⟩ rec
  (conv => whnf); repeat' (first | ((first | refine bdec ?_ ?_ | refine bnot ?_ ?_ | refine bsel_intro ?_ ?_ | skip) <;> intro hc <;> (try simp (disch := omega) only [nm, dToks_len, dToks_0, dToks_1, dToks_2, Nat.reduceAdd, wrapI] at hc) <;> conv => whnf) | (refine .head _ rfl (by kernel_rfl) ?_; conv => whnf) | (refine w74 ?_; conv => whnf) | (refine w75 ?_; conv => whnf) | (apply pcall; (focus (intro _ _ hk; first | exact w74 hk | exact w75 hk)); conv => whnf) | (refine And.intro ?_ ?_; (focus ((first | omega | decide | exact Nat.le_of_ble_eq_true rfl | (simp (disch := omega) only [nm, dToks_len, dToks_0, dToks_1, dToks_2, Nat.reduceAdd, wrapI] <;> omega) | (simp [strOf, nm, dToks_len, dToks_0, dToks_1, dToks_2, Nat.reduceAdd] <;> omega) | rfl); done)); conv => whnf) | (rw [vv]; conv => whnf))
  all_goals first
    | (refine eqI (rec (i + 1) ⟨?_, lt_succ_split hs ?_⟩ ?_) ?_ <;> first | omega | (simp (disch := omega) only [wrapS]; done) | (simp_all [wchB]; done))
    | (refine krI h ?_; rw [wordN_eq hs hi (.inl (by omega))])
    | (refine krI h ?_; rw [wordN_eq hs hi (.inr (by simp_all [wchB]))])
theorem w119 {t : Str} {Kr Kp : C → List Ob → R} (ht : t.length ≤ 1048576) (h35 : ∀ c ∈ t, c.toNat ≠ 35) (h : Kr (.d (.int .i64 (passN t : Int))) []) : Wp T Tryz.prog tt 119 [.d (.str t)] [] Kr Kp := by
  refine go (k := 119) (own := true) (cap := .deep) Tryz.func119 (by kernel_rfl) ?_
  (conv => whnf); repeat' (first | ((first | refine bdec ?_ ?_ | refine bnot ?_ ?_ | refine bsel_intro ?_ ?_ | skip) <;> intro hc <;> (try simp (disch := omega) only [nm, dToks_len, dToks_0, dToks_1, dToks_2, Nat.reduceAdd, wrapI] at hc) <;> conv => whnf) | (refine .head _ rfl (by kernel_rfl) ?_; conv => whnf) | (refine And.intro ?_ ?_; (focus ((first | omega | decide | exact Nat.le_of_ble_eq_true rfl | (simp (disch := omega) only [nm, dToks_len, dToks_0, dToks_1, dToks_2, Nat.reduceAdd, wrapI] <;> omega) | (simp [strOf, nm, dToks_len, dToks_0, dToks_1, dToks_2, Nat.reduceAdd] <;> omega) | rfl); done)); conv => whnf) | (rw [vv]; conv => whnf))
  refine loopOf (fun i : Nat => ⟨[(0, .d (.str t)), (3, .d (.int .i64 (i : Int)))], []⟩) (fun i => i ≤ t.length ∧ ∀ j, j < i → blankB (t[j]?.getD 0) = true) (fun i => t.length - i) 0 rfl ⟨by omega, fun j hj => by omega⟩ ?_
  intro i I ⟨hi, hs⟩ rec
  obtain ⟨x, hx⟩ : ∃ x, (((t[i]?).getD 0).toNat : Int) = x := ⟨_, rfl⟩
  have h35' : i < t.length → x ≠ 35 := fun hl e => h35 _ (List.getElem_mem hl) (by rw [List.getElem?_eq_getElem hl] at hx; simp only [Option.getD_some] at hx; omega)
  have hb : blankB ((t[i]?).getD 0) = (decide (x = 32) || decide (x = 9) || decide (x = 10) || decide (x = 13) || decide (x = 44)) := by
    have e : ∀ n : Nat, decide (((t[i]?).getD 0).toNat = n) = decide (x = (n : Int)) := fun n => by rw [decide_eq_decide]; omega
    simp only [blankB, e]; rfl
  have hlt : (i : Int) < (t.length : Int) → x ≠ 35 := fun h => h35' (by omega)
  (conv => whnf); repeat' (first | ((first | refine bdec ?_ ?_ | refine bnot ?_ ?_ | refine bsel_intro ?_ ?_ | skip) <;> intro hc <;> (try simp (disch := omega) only [nm, dToks_len, dToks_0, dToks_1, dToks_2, Nat.reduceAdd, hx, wrapI] at hc) <;> conv => whnf) | (refine .head _ rfl (by kernel_rfl) ?_; conv => whnf) | (refine And.intro ?_ ?_; (focus ((first | omega | decide | exact Nat.le_of_ble_eq_true rfl | (simp (disch := omega) only [nm, dToks_len, dToks_0, dToks_1, dToks_2, Nat.reduceAdd, hx, wrapI] <;> omega) | (simp [strOf, nm, dToks_len, dToks_0, dToks_1, dToks_2, Nat.reduceAdd, hx] <;> omega) | rfl); done)); conv => whnf) | (rw [vv]; conv => whnf))
  all_goals first
    | (exfalso; omega)
    | (refine eqI (rec (i + 1) ⟨?_, lt_succ_split hs ?_⟩ ?_) ?_ <;> first | omega | (simp (disch := omega) only [wrapS]; done) | (rw [hb]; simp_all; done))
    | (refine krI h ?_; rw [passN_eq hs hi (.inl (by omega))])
    | (refine krI h ?_; rw [passN_eq hs hi (.inr (by rw [hb]; simp_all))])
theorem w157 {t p : Str} {Kr Kp : C → List Ob → R} (h : Kr (.d (.bool (decide (t.take p.length = p)))) []) : Wp T Tryz.prog tt 157 [.d (.str t), .d (.str p)] [] Kr Kp := by
  refine go (k := 157) (own := true) (cap := .deep) Tryz.func157 (by kernel_rfl) ?_
  (conv => whnf); repeat' (first | ((first | refine bdec ?_ ?_ | refine bnot ?_ ?_ | refine bsel_intro ?_ ?_ | skip) <;> intro hc <;> (try simp (disch := omega) only [nm, dToks_len, dToks_0, dToks_1, dToks_2, Nat.reduceAdd, wrapI] at hc) <;> conv => whnf) | (refine .head _ rfl (by kernel_rfl) ?_; conv => whnf) | (refine And.intro ?_ ?_; (focus ((first | omega | decide | exact Nat.le_of_ble_eq_true rfl | (simp (disch := omega) only [nm, dToks_len, dToks_0, dToks_1, dToks_2, Nat.reduceAdd, wrapI] <;> omega) | (simp [strOf, nm, dToks_len, dToks_0, dToks_1, dToks_2, Nat.reduceAdd] <;> omega) | rfl); done)); conv => whnf) | (rw [vv]; conv => whnf))
  · refine krB h ?_; simp
  · refine krB h ?_; simp only [decide_eq_false_iff_not]; intro e; have := congrArg List.length e; simp at this; omega
theorem w140 {t p : Str} {Kr Kp : C → List Ob → R} (h : Kr (.d (.bool (decide (t.take p.length = p)))) []) : Wp T Tryz.prog tt 140 [.d (.str t), .d (.str p)] [] Kr Kp := by
  refine go (k := 140) (own := true) (cap := .deep) Tryz.func140 (by kernel_rfl) ?_
  (conv => whnf); repeat' (first | ((first | refine bdec ?_ ?_ | refine bnot ?_ ?_ | refine bsel_intro ?_ ?_ | skip) <;> intro hc <;> (try simp (disch := omega) only [nm, dToks_len, dToks_0, dToks_1, dToks_2, Nat.reduceAdd, wrapI] at hc) <;> conv => whnf) | (refine .head _ rfl (by kernel_rfl) ?_; conv => whnf) | (refine w157 ?_; conv => whnf) | (apply pcall; (focus (intro _ _ hk; first | exact w157 hk)); conv => whnf) | (refine And.intro ?_ ?_; (focus ((first | omega | decide | exact Nat.le_of_ble_eq_true rfl | (simp (disch := omega) only [nm, dToks_len, dToks_0, dToks_1, dToks_2, Nat.reduceAdd, wrapI] <;> omega) | (simp [strOf, nm, dToks_len, dToks_0, dToks_1, dToks_2, Nat.reduceAdd] <;> omega) | rfl); done)); conv => whnf) | (rw [vv]; conv => whnf))
  exact h
theorem w139 {Kr Kp : C → List Ob → R} (h : Kr (.row 0) [.row 9 .deep 0 (dStr puncL)]) : Wp T Tryz.prog tt 139 [] [] Kr Kp := by
  refine go (k := 139) (own := true) (cap := .deep) Tryz.func139 (by kernel_rfl) ?_
  (conv => whnf); repeat' (first | ((first | refine bdec ?_ ?_ | refine bnot ?_ ?_ | refine bsel_intro ?_ ?_ | skip) <;> intro hc <;> (try simp (disch := omega) only [nm, dToks_len, dToks_0, dToks_1, dToks_2, Nat.reduceAdd, wrapI] at hc) <;> conv => whnf) | (refine .head _ rfl (by kernel_rfl) ?_; conv => whnf) | (refine And.intro ?_ ?_; (focus ((first | omega | decide | exact Nat.le_of_ble_eq_true rfl | (simp (disch := omega) only [nm, dToks_len, dToks_0, dToks_1, dToks_2, Nat.reduceAdd, wrapI] <;> omega) | (simp [strOf, nm, dToks_len, dToks_0, dToks_1, dToks_2, Nat.reduceAdd] <;> omega) | rfl); done)); conv => whnf) | (rw [vv]; conv => whnf))
  exact h
theorem tokO_ne {t : Str} {k : Tok} {n : Nat} (h : tokO t = some (k, n)) : ∃ c r, t = c :: r := by
  cases t with
  | nil => cases h
  | cons c r => exact ⟨c, r, rfl⟩
theorem find_at {f : Str → Bool} {p : Str} : ∀ {l : List Str} {i : Nat}, l.find? f = some p → (∀ j, j < i → f ((l[j]?).getD []) = false) → f ((l[i]?).getD []) = true → i < l.length → p = (l[i]?).getD []
  | [], i, h, _, _, hi => by simp at hi
  | x :: l, 0, h, _, hy, _ => by
    have hy : f x = true := by simpa using hy
    rw [List.find?_cons_of_pos hy] at h
    simpa using (Option.some.inj h).symm
  | x :: l, i + 1, h, hn, hy, hi => by
    have h0 : f x = false := by simpa using hn 0 (by omega)
    rw [List.find?_cons_of_neg (by simp [h0])] at h
    simpa using find_at (i := i) h (fun j hj => by simpa using hn (j + 1) (Nat.succ_lt_succ hj)) (by simpa using hy) (by simpa using hi)
theorem find_end {f : Str → Bool} {p : Str} {l : List Str} (h : l.find? f = some p) (hn : ∀ j, j < l.length → f ((l[j]?).getD []) = false) : False := by
  obtain ⟨j, hj, e⟩ := List.mem_iff_getElem.1 (List.mem_of_find?_eq_some h)
  have h1 := hn j hj
  have h2 := List.find?_some h
  rw [List.getElem?_eq_getElem hj, Option.getD_some, e, h2] at h1
  cases h1
theorem takeWhile_le (p : UInt8 → Bool) : ∀ t : Str, (t.takeWhile p).length ≤ t.length
  | [] => by simp
  | c :: t => by
    rw [List.takeWhile_cons]
    split
    · have := takeWhile_le p t; simp only [List.length_cons]; omega
    · simp
theorem wordN_le (t : Str) : wordN t ≤ t.length := takeWhile_le _ t
theorem passN_le (t : Str) : passN t ≤ t.length := takeWhile_le _ t
theorem w120 {t : Str} {k : Tok} {n : Nat} {Kr Kp : C → List Ob → R} (ht : t.length ≤ 1048576) (hk : tokO t = some (k, n)) (h : Kr (.tuple [.agg [.d (.int .i64 k.1), .d (.int .i64 k.2.1), .d (.str k.2.2)], .d (.int .i64 (n : Int)), .d (.bool true)]) []) : Wp T Tryz.prog tt 120 [.d (.str t)] [] Kr Kp := by
  refine go (k := 120) (own := true) (cap := .deep) Tryz.func120 (by kernel_rfl) ?_
  obtain ⟨c, r, e⟩ := tokO_ne hk
  subst e
  have hl : 0 < (c :: r).length := by simp
  have hw := wordN_le (c :: r)
  rw [tokO] at hk
  by_cases hL : letB (c.toNat : Int) = true
  · rw [if_pos hL] at hk
    by_cases hN : nameB ((c :: r).take (wordN (c :: r))) = true
    · rw [if_pos hN] at hk
      cases hk
      (conv => whnf); repeat' (first | ((first | refine bdec ?_ ?_ | refine bnot ?_ ?_ | refine bsel_intro ?_ ?_ | skip) <;> intro hc <;> (try simp (disch := omega) only [nm, dToks_len, dToks_0, dToks_1, dToks_2, Nat.reduceAdd, List.getElem?_cons_zero, Option.getD_some, Int.reduceToNat, wrapI] at hc) <;> conv => whnf) | (refine aheadAt 120 (by kernel_rfl) (by kernel_rfl) ?_; conv => whnf) | (refine PAnd.mk ?_ ?_ <;> conv => whnf) | exact PTrue.mk | (refine .head _ rfl (by kernel_rfl) ?_; conv => whnf) | (refine w74 ?_; conv => whnf) | (refine w75 ?_; conv => whnf) | (refine w139 ?_; conv => whnf) | (refine w138 ht ?_; conv => whnf) | (refine w36 ?_; conv => whnf) | (apply pcall; (focus (intro _ _ hk; first | exact w74 hk | exact w75 hk | exact w139 hk | exact w138 ht hk | exact w36 hk)); conv => whnf) | (refine And.intro ?_ ?_; (focus ((first | omega | decide | exact Nat.le_of_ble_eq_true rfl | (simp (disch := omega) only [nm, dToks_len, dToks_0, dToks_1, dToks_2, Nat.reduceAdd, List.getElem?_cons_zero, Option.getD_some, Int.reduceToNat, wrapI] <;> omega) | (simp [strOf, nm, dToks_len, dToks_0, dToks_1, dToks_2, Nat.reduceAdd, List.getElem?_cons_zero, Option.getD_some, Int.reduceToNat] <;> omega) | rfl); done)); conv => whnf) | (rw [vv]; conv => whnf))
      all_goals first | (exfalso; simp_all; done) | (simp only [List.drop_zero, Int.toNat_natCast, Int.reduceToNat, hN]; exact h)
    · rw [if_neg hN] at hk; cases hk
  rw [if_neg hL] at hk
  by_cases hD : c.toNat = 45 ∨ digB (c.toNat : Int) = true ∨ c.toNat = 36
  · rw [if_pos hD] at hk; cases hk
  rw [if_neg hD] at hk
  have hD1 : (c.toNat : Int) ≠ 45 := fun e => hD (.inl (by omega))
  have hD2 : (c.toNat : Int) ≠ 36 := fun e => hD (.inr (.inr (by omega)))
  have hD3 : digB (c.toNat : Int) = false := by simpa using fun e => hD (.inr (.inl e))
  have hL3 : letB (c.toNat : Int) = false := by simpa using hL
  split at hk
  · rename_i p hp
    cases hk
    (conv => whnf); repeat' (first | ((first | refine bdec ?_ ?_ | refine bnot ?_ ?_ | refine bsel_intro ?_ ?_ | skip) <;> intro hc <;> (try simp (disch := omega) only [nm, dToks_len, dToks_0, dToks_1, dToks_2, Nat.reduceAdd, List.getElem?_cons_zero, Option.getD_some, Int.reduceToNat, wrapI] at hc) <;> conv => whnf) | (refine .head _ rfl (by kernel_rfl) ?_; conv => whnf) | (refine w74 ?_; conv => whnf) | (refine w75 ?_; conv => whnf) | (refine w139 ?_; conv => whnf) | (apply pcall; (focus (intro _ _ hk; first | exact w74 hk | exact w75 hk | exact w139 hk)); conv => whnf) | (refine And.intro ?_ ?_; (focus ((first | omega | decide | exact Nat.le_of_ble_eq_true rfl | (simp (disch := omega) only [nm, dToks_len, dToks_0, dToks_1, dToks_2, Nat.reduceAdd, List.getElem?_cons_zero, Option.getD_some, Int.reduceToNat, wrapI] <;> omega) | (simp [strOf, nm, dToks_len, dToks_0, dToks_1, dToks_2, Nat.reduceAdd, List.getElem?_cons_zero, Option.getD_some, Int.reduceToNat] <;> omega) | rfl); done)); conv => whnf) | (rw [vv]; conv => whnf))
    all_goals first | (exfalso; simp_all; done) | skip
    refine loopOf (fun i : Nat => ⟨[(0, .d (.str (c :: r))), (2, .ref 0 0), (67, .row 1), (68, .d (.int .i64 ((dStr puncL).length : Int))), (69, .d (.int .i64 (i : Int)))], [.box [.d (.int .i64 0), .d (.int .i64 0), .d (.str [])], .row 9 .deep 0 (dStr puncL)]⟩) (fun i => i ≤ 10 ∧ ∀ j, j < i → (fun p => decide ((c :: r).take p.length = p)) ((puncL[j]?).getD []) = false) (fun i => 10 - i) 0 rfl ⟨by omega, fun j hj => by omega⟩ ?_
    intro i I ⟨hi, hs⟩ rec
    have h10 : puncL.length = 10 := rfl
    (conv => whnf); repeat' (first | ((first | refine bdec ?_ ?_ | refine bnot ?_ ?_ | refine bsel_intro ?_ ?_ | skip) <;> intro hc <;> (try simp (disch := omega) only [nm, dToks_len, dToks_0, dToks_1, dToks_2, Nat.reduceAdd, wrapI] at hc) <;> conv => whnf) | (refine aheadAt 120 (by kernel_rfl) (by kernel_rfl) ?_; conv => whnf) | (refine PAnd.mk ?_ ?_ <;> conv => whnf) | exact PTrue.mk | (refine .head _ rfl (by kernel_rfl) ?_; conv => whnf) | (refine w140 ?_; conv => whnf) | (apply pcall; (focus (intro _ _ hk; first | exact w140 hk)); conv => whnf) | (refine And.intro ?_ ?_; (focus ((first | omega | decide | exact Nat.le_of_ble_eq_true rfl | (simp (disch := omega) only [nm, dToks_len, dToks_0, dToks_1, dToks_2, Nat.reduceAdd, wrapI] <;> omega) | (simp [strOf, nm, dToks_len, dToks_0, dToks_1, dToks_2, Nat.reduceAdd] <;> omega) | rfl); done)); conv => whnf) | (rw [vv]; conv => whnf))
    · have e := find_at (i := i) hp hs (by simpa using ‹List.take _ (c :: r) = _›) (by omega)
      subst e
      simp only [nm, dToks_len, dToks_0, dToks_1, dToks_2, Nat.reduceAdd]
      exact h
    · refine eqI (rec (i + 1) ⟨by omega, lt_succ_split hs (by simpa using hc)⟩ (by omega)) ?_
      simp (disch := omega) only [wrapS]
    · exact (find_end hp fun j hj => hs j (by omega)).elim
  · cases hk
end Go.Proofs.SL
