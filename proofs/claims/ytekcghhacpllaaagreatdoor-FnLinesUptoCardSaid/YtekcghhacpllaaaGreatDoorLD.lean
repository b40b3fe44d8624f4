/- Contracts of functions of this program, by the evaluator EN. No conditions but those that each theorem states. -/
import Derived.Test.YtekcghhacpllaaaGreatDoorKJ
import Derived.Test.YtekcghhacpllaaaGreatDoorEHd
set_option linter.unusedVariables false
set_option linter.unusedSimpArgs false
set_option maxRecDepth 100000
set_option maxHeartbeats 8000000
namespace Go.Proofs.SL
open Go Go.Proofs Go.Proofs.EN Go.Proofs.VT
variable {T : Tabs}
theorem krC {Kr : C → List Ob → R} {c c' : C} {os : List Ob} (h : Kr c os) (e : c = c') : Kr c' os := by rw [← e]; exact h
theorem mem_take_succ {α : Type} {b : List α} {x y : α} {j : Nat} (h : b[j]? = some y) : x ∈ b.take (j + 1) ↔ x ∈ b.take j ∨ x = y := by
  rw [List.take_add_one, h]; simp
theorem arg_eq {x y : QArg} : x = y ↔ x.1 = y.1 ∧ x.2.1 = y.2.1 ∧ x.2.2.1 = y.2.2.1 ∧ x.2.2.2 = y.2.2.2 := by
  obtain ⟨a, b, c, d⟩ := x; obtain ⟨a', b', c', d'⟩ := y; simp
/-! ### Definitions -/
abbrev dSS (ss : List QSel) : D := .list 201 (dQSels 222 237 201 ss)
abbrev cDef (x : QDef) : C := .agg [.d (.int .i64 x.1), .d (.str x.2.1), .d (.str x.2.2.1), .d (dSS x.2.2.2)]
def noDef : QDef := (0, [], [], [])
def isFrag (n : Str) (x : QDef) : Bool := decide (x.1 = 3) && decide (x.2.1 = n)
/-- The first fragment of a name. -/
def frag (d : QDoc) (n : Str) : Option QDef := d.find? (isFrag n)
def fragD (d : QDoc) (n : Str) : QDef := (frag d n).getD noDef
theorem frag_yes {d : QDoc} {n : Str} {i : Nat} {x : QDef} (hx : d[i]? = some x) (h : isFrag n x = true) (h2 : ∀ j, j < i → isFrag n ((d[j]?).getD default) = false) : frag d n = some x := by
  rw [frag, List.find?_eq_some_iff_append]
  have hi : i < d.length := by
    rcases Nat.lt_or_ge i d.length with h | h
    · exact h
    · rw [List.getElem?_eq_none h] at hx; cases hx
  refine ⟨h, d.take i, d.drop (i + 1), ?_, fun y hy => ?_⟩
  · have : x = d[i] := by rw [List.getElem?_eq_getElem hi] at hx; exact (Option.some.inj hx).symm
    subst this
    simp
  · obtain ⟨j, hj, rfl⟩ := List.getElem_of_mem hy
    have hj2 : j < i := by simp at hj; omega
    have := h2 j hj2
    have hjd : j < d.length := by omega
    simpa [hjd] using this
theorem frag_no {d : QDoc} {n : Str} (h2 : ∀ j, j < d.length → isFrag n ((d[j]?).getD default) = false) : frag d n = none := by
  rw [frag, List.find?_eq_none]
  intro y hy
  obtain ⟨j, hj, rfl⟩ := List.getElem_of_mem hy
  have := h2 j hj
  simpa [hj] using this
theorem w204 {d : QDoc} {n : Str} {Kr Kp : C → List Ob → R} (h : Kr (.tuple [cDef (fragD d n), .d (.bool (frag d n).isSome)]) []) : Wp T Tryz.prog tt 204 [cDoc d, .d (.str n)] [] Kr Kp := by
  refine go (k := 204) (own := false) (cap := .deep) Tryz.func204 (by kernel_rfl) ?_
  (conv => whnf); repeat' (first | ((first | refine bdec ?_ ?_ | refine bnot ?_ ?_ | refine bsel_intro ?_ ?_ | skip) <;> intro hc <;> (try simp (disch := omega) only [nm, nq, Nat.reduceAdd, wrapI] at hc) <;> conv => whnf) | (refine .head _ rfl (by kernel_rfl) ?_; conv => whnf) | (refine And.intro ?_ ?_; (focus ((first | omega | decide | (simp (disch := omega) only [nm, nq, Nat.reduceAdd, wrapI] <;> omega) | (simp [strOf, nm, nq, Nat.reduceAdd] <;> omega) | exact Nat.le_of_ble_eq_true rfl | rfl); done)); conv => whnf) | (rw [vv]; conv => whnf) | (refine NilP.mk fun nb hnb => ?_; conv => whnf))
  refine loopOf (fun i : Nat => ⟨[(1, .d (.str n)), (2, .ref 0 0), (4, .ref 1 0), (6, .d (.int .i64 (i : Int)))], [.box [.d (.list 192 (dQDefs 222 237 201 d))], .box [.d (.int .i64 0), .d (.str []), .d (.str []), .row 2], .row 201 .deep 0 []]⟩) (fun i => i ≤ d.length ∧ ∀ j, j < i → isFrag n ((d[j]?).getD default) = false) (fun i => d.length - i) 0 rfl ⟨by omega, fun j hj => by omega⟩ ?_
  intro i I hi rec
  obtain ⟨hi1, hi2⟩ := hi
  obtain ⟨x, hx⟩ : ∃ x, (d[i]?).getD default = x := ⟨_, rfl⟩
  (conv => whnf); repeat' (first | ((first | refine bdec ?_ ?_ | refine bnot ?_ ?_ | refine bsel_intro ?_ ?_ | skip) <;> intro hc <;> (try simp (disch := omega) only [nm, nq, Nat.reduceAdd, hx, wrapI] at hc) <;> conv => whnf) | (refine .head _ rfl (by kernel_rfl) ?_; conv => whnf) | (refine And.intro ?_ ?_; (focus ((first | omega | decide | (simp (disch := omega) only [nm, nq, Nat.reduceAdd, hx, wrapI] <;> omega) | (simp [strOf, nm, nq, Nat.reduceAdd, hx] <;> omega) | exact Nat.le_of_ble_eq_true rfl | rfl); done)); conv => whnf) | (rw [vv]; conv => whnf) | (refine NilP.mk fun nb hnb => ?_; conv => whnf))
  · have e := frag_yes (n := n) (of_getD hx (by omega)) (by simp_all [isFrag]) hi2
    refine krC h ?_
    simp only [nm, nq, Nat.reduceAdd, hx, fragD, e, Option.getD_some, Option.isSome_some]
  · refine eqI (rec (i + 1) ⟨by omega, lt_succ_split hi2 (by rw [hx]; simp_all [isFrag])⟩ (by omega)) ?_
    rw [wrapS (by omega)]
  · refine eqI (rec (i + 1) ⟨by omega, lt_succ_split hi2 (by rw [hx]; simp_all [isFrag])⟩ (by omega)) ?_
    rw [wrapS (by omega)]
  · have e := frag_no (n := n) (fun j hj => hi2 j (by omega))
    rw [fragD, e] at h
    exact h
theorem w205 {ws : List Str} {t : Str} {Kr Kp : C → List Ob → R} (h : Kr (.d (.bool (decide (t ∈ ws)))) []) : Wp T Tryz.prog tt 205 [.d (.list 9 (dStr ws)), .d (.str t)] [] Kr Kp := by
  refine go (k := 205) (own := true) (cap := .deep) Tryz.func205 (by kernel_rfl) ?_
  (conv => whnf); repeat' (first | ((first | refine bdec ?_ ?_ | refine bnot ?_ ?_ | refine bsel_intro ?_ ?_ | skip) <;> intro hc <;> (try simp (disch := omega) only [nm, nq, Nat.reduceAdd, wrapI] at hc) <;> conv => whnf) | (refine .head _ rfl (by kernel_rfl) ?_; conv => whnf) | (refine And.intro ?_ ?_; (focus ((first | omega | decide | (simp (disch := omega) only [nm, nq, Nat.reduceAdd, wrapI] <;> omega) | (simp [strOf, nm, nq, Nat.reduceAdd] <;> omega) | exact Nat.le_of_ble_eq_true rfl | rfl); done)); conv => whnf) | (rw [vv]; conv => whnf) | (refine NilP.mk fun nb hnb => ?_; conv => whnf))
  refine loopOf (fun i : Nat => ⟨[(0, .d (.list 9 (dStr ws))), (1, .d (.str t)), (5, .d (.int .i64 (i : Int)))], []⟩) (fun i => i ≤ ws.length ∧ ¬ t ∈ ws.take i) (fun i => ws.length - i) 0 rfl ⟨by omega, by simp⟩ ?_
  intro i I hi rec
  obtain ⟨hi1, hi2⟩ := hi
  obtain ⟨x, hx⟩ : ∃ x, (ws[i]?).getD [] = x := ⟨_, rfl⟩
  have hx' : i < ws.length → ws[i]? = some x := fun h => by rw [← hx]; simp [h]
  (conv => whnf); repeat' (first | ((first | refine bdec ?_ ?_ | refine bnot ?_ ?_ | refine bsel_intro ?_ ?_ | skip) <;> intro hc <;> (try simp (disch := omega) only [nm, nq, Nat.reduceAdd, hx, wrapI] at hc) <;> conv => whnf) | (refine .head _ rfl (by kernel_rfl) ?_; conv => whnf) | (refine And.intro ?_ ?_; (focus ((first | omega | decide | (simp (disch := omega) only [nm, nq, Nat.reduceAdd, hx, wrapI] <;> omega) | (simp [strOf, nm, nq, Nat.reduceAdd, hx] <;> omega) | exact Nat.le_of_ble_eq_true rfl | rfl); done)); conv => whnf) | (rw [vv]; conv => whnf) | (refine NilP.mk fun nb hnb => ?_; conv => whnf))
  · refine krB h ?_
    have := List.mem_of_getElem? (hx' (by omega))
    simp [← hc, this]
  · refine eqI (rec (i + 1) ⟨by omega, ?_⟩ (by omega)) ?_
    · rw [List.take_add_one, hx' (by omega)]
      simp only [Option.toList_some, List.mem_append, List.mem_singleton, not_or]
      exact ⟨hi2, fun e => hc e.symm⟩
    · rw [wrapS (by omega)]
  · rw [List.take_of_length_le (by omega)] at hi2
    exact krB h (by simp [hi2])
theorem w224 {x : QSel} {Kr Kp : C → List Ob → R} (h : Kr (.d (.str (if x.alias = [] then x.name else x.alias))) []) : Wp T Tryz.prog tt 224 [cSel x] [] Kr Kp := by
  refine go (k := 224) (own := true) (cap := .deep) Tryz.func224 (by kernel_rfl) ?_
  (conv => whnf); repeat' (first | ((first | refine bdec ?_ ?_ | refine bnot ?_ ?_ | refine bsel_intro ?_ ?_ | skip) <;> intro hc <;> (try simp (disch := omega) only [nm, nq, Nat.reduceAdd, wrapI] at hc) <;> conv => whnf) | (refine .head _ rfl (by kernel_rfl) ?_; conv => whnf) | (refine And.intro ?_ ?_; (focus ((first | omega | decide | (simp (disch := omega) only [nm, nq, Nat.reduceAdd, wrapI] <;> omega) | (simp [strOf, nm, nq, Nat.reduceAdd] <;> omega) | exact Nat.le_of_ble_eq_true rfl | rfl); done)); conv => whnf) | (rw [vv]; conv => whnf) | (refine NilP.mk fun nb hnb => ?_; conv => whnf))
  all_goals simpa [hc] using h
theorem w225 {a b : List QArg} {Kr Kp : C → List Ob → R} (h : Kr (.d (.bool (decide (a.length = b.length) && a.all fun x => decide (x ∈ b)))) []) : Wp T Tryz.prog tt 225 [.d (.list 222 (dQArgs a)), .d (.list 222 (dQArgs b))] [] Kr Kp := by
  refine go (k := 225) (own := true) (cap := .deep) Tryz.func225 (by kernel_rfl) ?_
  (conv => whnf); repeat' (first | ((first | refine bdec ?_ ?_ | refine bnot ?_ ?_ | refine bsel_intro ?_ ?_ | skip) <;> intro hc <;> (try simp (disch := omega) only [nm, nq, Nat.reduceAdd, wrapI] at hc) <;> conv => whnf) | (refine .head _ rfl (by kernel_rfl) ?_; conv => whnf) | (refine And.intro ?_ ?_; (focus ((first | omega | decide | (simp (disch := omega) only [nm, nq, Nat.reduceAdd, wrapI] <;> omega) | (simp [strOf, nm, nq, Nat.reduceAdd] <;> omega) | exact Nat.le_of_ble_eq_true rfl | rfl); done)); conv => whnf) | (rw [vv]; conv => whnf) | (refine NilP.mk fun nb hnb => ?_; conv => whnf))
  · exact krB h (by simp; omega)
  have hl : a.length = b.length := by omega
  refine loopOf (fun i : Nat => ⟨[(0, .d (.list 222 (dQArgs a))), (1, .d (.list 222 (dQArgs b))), (5, .d (.int .i64 (i : Int)))], []⟩) (fun i => i ≤ a.length ∧ ∀ j, j < i → decide ((a[j]?).getD default ∈ b) = true) (fun i => a.length - i) 0 rfl ⟨by omega, fun j hj => by omega⟩ ?_
  intro i I hi rec
  obtain ⟨hi1, hi2⟩ := hi
  obtain ⟨x, hx⟩ : ∃ x, (a[i]?).getD default = x := ⟨_, rfl⟩
  (conv => whnf); repeat' (first | ((first | refine bdec ?_ ?_ | refine bnot ?_ ?_ | refine bsel_intro ?_ ?_ | skip) <;> intro hc <;> (try simp (disch := omega) only [nm, nq, Nat.reduceAdd, hx, wrapI] at hc) <;> conv => whnf) | (refine .head _ rfl (by kernel_rfl) ?_; conv => whnf) | (refine And.intro ?_ ?_; (focus ((first | omega | decide | (simp (disch := omega) only [nm, nq, Nat.reduceAdd, hx, wrapI] <;> omega) | (simp [strOf, nm, nq, Nat.reduceAdd, hx] <;> omega) | exact Nat.le_of_ble_eq_true rfl | rfl); done)); conv => whnf) | (rw [vv]; conv => whnf) | (refine NilP.mk fun nb hnb => ?_; conv => whnf))
  · refine loopOf (fun j : Nat => ⟨[(0, .d (.list 222 (dQArgs a))), (1, .d (.list 222 (dQArgs b))), (5, .d (.int .i64 (i : Int))), (6, .d (.bool (decide (x ∈ b.take j)))), (7, .d (.int .i64 (j : Int)))], []⟩) (fun j => j ≤ b.length) (fun j => b.length - j) 0 (by simp) (by omega) ?_
    intro j J hj rec2
    obtain ⟨y, hy⟩ : ∃ y, (b[j]?).getD default = y := ⟨_, rfl⟩
    have hm : j < b.length → (x ∈ b.take (j + 1) ↔ x ∈ b.take j ∨ x = y) := fun h => mem_take_succ (of_getD hy h)
    (conv => whnf); repeat' (first | ((first | refine bdec ?_ ?_ | refine bnot ?_ ?_ | refine bsel_intro ?_ ?_ | skip) <;> intro hc <;> (try simp (disch := omega) only [nm, nq, Nat.reduceAdd, hx, hy, wrapI] at hc) <;> conv => whnf) | (refine .head _ rfl (by kernel_rfl) ?_; conv => whnf) | (refine And.intro ?_ ?_; (focus ((first | omega | decide | (simp (disch := omega) only [nm, nq, Nat.reduceAdd, hx, hy, wrapI] <;> omega) | (simp [strOf, nm, nq, Nat.reduceAdd, hx, hy] <;> omega) | exact Nat.le_of_ble_eq_true rfl | rfl); done)); conv => whnf) | (rw [vv]; conv => whnf) | (refine NilP.mk fun nb hnb => ?_; conv => whnf))
    · refine eqI (rec2 (j + 1) (by omega) (by omega)) ?_
      have : x ∈ b.take (j + 1) := (hm (by omega)).2 (.inl hc)
      rw [wrapS (by omega)]
      simp only [this, decide_true]
    · refine eqI (rec2 (j + 1) (by omega) (by omega)) ?_
      have e : decide (x ∈ b.take (j + 1)) = decide (x = y) := by rw [decide_eq_decide, hm (by omega)]; simp [hc]
      rw [wrapS (by omega), e]
      simp only [nm, nq, Nat.reduceAdd, hx, hy, arg_eq, Bool.decide_and, Bool.and_true]
    · refine krB h ?_
      rw [List.take_of_length_le (by omega)] at hc
      have : (a.all fun x => decide (x ∈ b)) = false := all_no (f := fun x => decide (x ∈ b)) i (by omega) (by rw [hx]; simp [hc])
      simp [this]
    · rw [List.take_of_length_le (by omega)] at hc
      refine eqI (rec (i + 1) ⟨by omega, lt_succ_split hi2 (by rw [hx]; simp [hc])⟩ (by omega)) ?_
      rw [wrapS (by omega)]
  · refine krB h ?_
    have : (a.all fun x => decide (x ∈ b)) = true := all_yes (f := fun x => decide (x ∈ b)) fun j hj => hi2 j (by omega)
    simp [this, hl]
end Go.Proofs.SL
/- Further plans of drawn regions. -/
namespace Go.Proofs.VT
open Go Go.Proofs Go.Proofs.EN
def plansAB : LTree (LTree (List Nat × List Nat × PlanA)) := (.node 179 (.node 11 ([49, 50, 51, 52, 53, 48, 55, 56], [1, 3, 4, 5, 6], (.ahead 0 [] (.ahead 1 [] (.ahead 2 [] (.ahead 3 [2, 1] (.ahead 4 [3] (.more 5 [4, 3, 2, 1, 0] (.ahead 6 [] (.ahead 7 [6] (.ahead 8 [6] (.more 9 [] (.more 10 [7, 6] (.more 11 [8] .done .stop) .stop) .stop)))) (.more 9 [] (.more 5 [4, 3, 2, 1, 0] (.ahead 6 [] (.ahead 7 [6] (.ahead 8 [6] (.more 10 [7, 6] (.more 11 [8] .done .stop) .stop)))) .stop) .stop)))))))) (.node 9 ([37, 38, 39, 40, 41, 42, 43, 44, 45, 46], [1, 3, 4, 5, 47], (.ahead 0 [] (.ahead 1 [] (.ahead 2 [1, 0] (.ahead 3 [2] (.ahead 4 [] (.ahead 5 [4] (.ahead 6 [] (.ahead 7 [6, 5] (.ahead 8 [7] (.ahead 9 [8] (.more 10 [9, 8, 7, 6, 5, 4, 3, 2, 1, 0] .done .stop)))))))))))) .leaf .leaf) .leaf) (.node 145 (.node 2 ([10], [0, 2, 3, 12], (.ahead 1 [] (.more 0 [] (.more 2 [1] (.more 3 [] .done .stop) .stop) .stop))) .leaf .leaf) (.node 106 (.node 11 ([44, 45, 46, 47, 48, 49, 53], [1, 2, 4, 6, 7, 8], (.ahead 0 [] (.ahead 1 [0] (.ahead 2 [] (.ahead 3 [] (.ahead 4 [] (.ahead 5 [4, 3] (.more 6 [5, 4, 3, 2] (.more 7 [] (.more 8 [1, 0] (.ahead 9 [] (.more 10 [9] .done .stop)) .stop) .stop) .stop)))))))) .leaf .leaf) (.node 104 (.node 11 ([52, 53, 54, 55, 56, 57, 58, 59, 60, 62, 63, 64, 65, 66, 67, 68, 72], [1, 2, 4, 5], (.ahead 0 [] (.ahead 1 [0] (.ahead 2 [] (.ahead 3 [] (.ahead 4 [3, 2] (.ahead 5 [4] (.ahead 6 [5] (.ahead 7 [] (.ahead 8 [] (.ahead 10 [] (.ahead 11 [10] (.ahead 12 [] (.ahead 13 [] (.ahead 14 [13, 12] (.ahead 15 [14] (.ahead 16 [15] (.more 9 [8, 7] (.more 17 [16, 15, 14, 13, 12, 11, 10] (.more 18 [] (.more 19 [] (.ahead 20 [6, 5, 4, 3, 2, 1, 0] (.more 21 [20, 6, 5, 4, 3, 2, 1, 0] .done .stop)) .stop) .stop) .stop) (.more 17 [16, 15, 14, 13, 12, 11, 10] (.more 9 [8, 7] (.more 18 [] (.more 19 [] (.ahead 20 [6, 5, 4, 3, 2, 1, 0] (.more 21 [20, 6, 5, 4, 3, 2, 1, 0] .done .stop)) .stop) .stop) (.more 18 [] (.more 9 [8, 7] (.more 19 [] (.ahead 20 [6, 5, 4, 3, 2, 1, 0] (.more 21 [20, 6, 5, 4, 3, 2, 1, 0] .done .stop)) .stop) .stop) .stop)) .stop))))))))))))))))))) (.node 8 ([23, 24, 25, 26, 27, 28, 29, 30, 31], [1, 2, 4, 5, 6], (.ahead 0 [] (.ahead 1 [0] (.ahead 2 [] (.ahead 3 [] (.ahead 4 [3, 2] (.ahead 5 [4] (.ahead 6 [5] (.ahead 7 [6, 1] (.ahead 8 [7] (.more 9 [8, 7, 6, 5, 4, 3, 2, 1, 0] .done .stop))))))))))) .leaf .leaf) .leaf) (.node 63 (.node 7 ([24, 25, 26, 27, 28, 23, 31, 32], [0, 2, 3, 4, 5], (.ahead 0 [] (.ahead 1 [] (.ahead 2 [] (.ahead 3 [2] (.ahead 4 [3] (.more 5 [4, 3, 2, 1] (.more 6 [0] (.ahead 7 [] (.ahead 8 [7] (.ahead 9 [7] (.more 10 [] (.more 11 [8, 7] (.more 12 [9] .done .stop) .stop) .stop)))) (.more 10 [] (.more 6 [0] (.ahead 7 [] (.ahead 8 [7] (.ahead 9 [7] (.more 11 [8, 7] (.more 12 [9] .done .stop) .stop)))) .stop) .stop)) (.more 10 [] (.more 5 [4, 3, 2, 1] (.more 6 [0] (.ahead 7 [] (.ahead 8 [7] (.ahead 9 [7] (.more 11 [8, 7] (.more 12 [9] .done .stop) .stop)))) .stop) .stop) .stop)))))))) (.node 5 ([17, 18], [0, 2, 3, 4], (.ahead 0 [] (.ahead 1 [] (.more 2 [1] (.more 3 [0] (.more 4 [] .done .stop) .stop) .stop)))) .leaf .leaf) .leaf) .leaf .leaf) .leaf) (.node 127 (.node 5 ([12, 13, 14, 15, 16, 17, 18, 19, 20, 21, 22, 23, 24, 25, 27, 28, 29], [1, 3, 4], (.ahead 0 [] (.ahead 1 [] (.ahead 2 [1] (.ahead 3 [] (.ahead 4 [3, 2] (.ahead 5 [4] (.ahead 6 [5] (.ahead 7 [6] (.ahead 8 [] (.ahead 9 [8] (.ahead 10 [] (.ahead 11 [10, 9] (.ahead 12 [11] (.ahead 13 [12] (.more 14 [13, 12, 11, 10, 9, 8] (.ahead 15 [7] (.ahead 16 [15] (.ahead 17 [16, 0] (.more 18 [17, 16, 15, 7, 6, 5, 4, 3, 2, 1, 0] .done .stop)))) .stop)))))))))))))))) .leaf .leaf) (.node 107 (.node 5 ([16, 17, 18, 19, 20, 21, 22, 23, 27], [1, 2, 3, 4], (.ahead 0 [] (.ahead 1 [0] (.ahead 2 [] (.ahead 3 [] (.ahead 4 [3] (.ahead 5 [] (.ahead 6 [5, 4] (.ahead 7 [6] (.more 8 [7, 6, 5, 4, 3, 2] (.more 9 [] (.more 10 [1, 0] (.ahead 11 [] (.more 12 [11] .done .stop)) .stop) .stop) .stop)))))))))) .leaf .leaf) .leaf .leaf) .leaf)) (.node 161 (.node 11 ([46, 47, 49, 50, 51, 53, 54, 55, 57, 58, 59, 60, 61, 66], [0, 1, 5, 6, 7], (.ahead 0 [] (.ahead 1 [0] (.ahead 3 [] (.ahead 4 [3] (.ahead 5 [4] (.ahead 7 [] (.ahead 8 [7] (.ahead 9 [8] (.ahead 15 [] (.more 2 [] (.more 6 [5, 4, 3] (.more 10 [9, 8, 7] (.ahead 11 [] (.ahead 12 [11] (.ahead 13 [12] (.ahead 14 [13] (.more 16 [15] (.more 17 [14, 13, 12, 11] (.more 18 [] (.more 19 [1, 0] (.ahead 20 [] (.more 21 [20] .done .stop)) .stop) .stop) .stop) .stop))))) .stop) .stop) (.more 6 [5, 4, 3] (.more 2 [] (.more 10 [9, 8, 7] (.ahead 11 [] (.ahead 12 [11] (.ahead 13 [12] (.ahead 14 [13] (.more 16 [15] (.more 17 [14, 13, 12, 11] (.more 18 [] (.more 19 [1, 0] (.ahead 20 [] (.more 21 [20] .done .stop)) .stop) .stop) .stop) .stop))))) .stop) (.more 10 [9, 8, 7] (.ahead 11 [] (.ahead 12 [11] (.more 2 [] (.ahead 13 [12] (.ahead 14 [13] (.more 16 [15] (.more 17 [14, 13, 12, 11] (.more 18 [] (.more 19 [1, 0] (.ahead 20 [] (.more 21 [20] .done .stop)) .stop) .stop) .stop) .stop))) (.more 16 [15] (.more 2 [] (.ahead 13 [12] (.ahead 14 [13] (.more 17 [14, 13, 12, 11] (.more 18 [] (.more 19 [1, 0] (.ahead 20 [] (.more 21 [20] .done .stop)) .stop) .stop) .stop))) .stop) .stop)))) .stop)) .stop)))))))))))) .leaf .leaf) (.node 160 (.node 7 ([41, 42, 43, 47], [2, 4, 6, 7], (.ahead 0 [] (.ahead 1 [0] (.ahead 2 [] (.more 3 [2] (.more 4 [] (.more 5 [1, 0] (.ahead 6 [] (.more 7 [6] .done .stop)) .stop) .stop) .stop))))) .leaf .leaf) (.node 147 (.node 5 ([33, 34, 35, 40], [2, 3], (.ahead 0 [] (.ahead 1 [0] (.ahead 2 [] (.more 3 [2] (.more 4 [] (.more 5 [] (.more 6 [1, 0] (.ahead 7 [] (.more 8 [7] .done .stop)) .stop) .stop) .stop) .stop))))) (.node 2 ([14, 15, 16, 17, 18, 19, 20, 21, 23, 24], [0, 2, 3], (.ahead 0 [] (.ahead 1 [0] (.ahead 2 [] (.ahead 3 [] (.ahead 4 [3] (.ahead 5 [4] (.ahead 6 [5] (.ahead 7 [6] (.more 8 [7, 6, 5, 4, 3, 2] (.ahead 9 [1, 0] (.ahead 10 [9, 1, 0] (.more 11 [10, 9, 1, 0] .done .stop))) .stop)))))))))) .leaf .leaf) .leaf) .leaf .leaf) .leaf) (.node 178 (.node 7 ([34, 35, 36, 37, 38, 39, 40, 41, 42], [2, 3, 5, 7], (.ahead 0 [] (.ahead 1 [] (.ahead 2 [] (.ahead 3 [] (.ahead 4 [3] (.ahead 5 [] (.ahead 6 [5, 4] (.ahead 7 [6] (.ahead 8 [7] (.more 9 [8, 7, 6, 5, 4, 3, 2, 1, 0] (.more 10 [] .done .stop) .stop))))))))))) (.node 4 ([15, 16, 17, 18, 19, 20, 22, 23, 24, 25, 26, 27, 28, 29], [2, 3, 5, 6], (.ahead 0 [] (.ahead 1 [0] (.ahead 2 [] (.ahead 3 [2, 1] (.ahead 4 [3] (.ahead 5 [4] (.ahead 7 [] (.ahead 8 [7] (.ahead 9 [] (.ahead 10 [9, 8] (.ahead 11 [10] (.ahead 12 [11] (.more 6 [5, 4, 3, 2, 1, 0] (.ahead 13 [12] (.ahead 14 [13] (.more 15 [14, 13, 12, 11, 10, 9, 8, 7] .done .stop))) .stop)))))))))))))) .leaf .leaf) .leaf) (.node 176 (.node 20 ([78, 80, 81, 82, 83, 84, 85, 87, 88, 89, 90, 91, 92, 93, 94, 95, 96, 98, 99, 100], [1, 3, 5], (.ahead 0 [] (.ahead 2 [] (.ahead 3 [2] (.ahead 4 [] (.ahead 5 [4, 3] (.ahead 6 [5] (.ahead 7 [6] (.ahead 13 [] (.ahead 14 [13] (.ahead 15 [] (.ahead 16 [15, 14] (.ahead 17 [16] (.ahead 18 [17] (.more 1 [] (.more 8 [7, 6, 5, 4, 3, 2] (.ahead 9 [] (.ahead 10 [9] (.ahead 11 [10] (.ahead 12 [11] (.more 19 [18, 17, 16, 15, 14, 13] (.ahead 20 [12] (.ahead 21 [20] (.ahead 22 [21, 0] (.more 23 [22, 21, 20, 12, 11, 10, 9, 0] .done .stop)))) .stop))))) .stop) (.more 8 [7, 6, 5, 4, 3, 2] (.more 1 [] (.ahead 9 [] (.ahead 10 [9] (.ahead 11 [10] (.ahead 12 [11] (.more 19 [18, 17, 16, 15, 14, 13] (.ahead 20 [12] (.ahead 21 [20] (.ahead 22 [21, 0] (.more 23 [22, 21, 20, 12, 11, 10, 9, 0] .done .stop)))) .stop))))) (.more 19 [18, 17, 16, 15, 14, 13] (.more 1 [] (.ahead 9 [] (.ahead 10 [9] (.ahead 11 [10] (.ahead 12 [11] (.ahead 20 [12] (.ahead 21 [20] (.ahead 22 [21, 0] (.more 23 [22, 21, 20, 12, 11, 10, 9, 0] .done .stop)))))))) .stop) .stop)) .stop)))))))))))))))) (.node 14 ([41, 43, 44, 46, 47, 48, 49, 50, 51, 52, 53, 54, 55, 56, 57, 58, 59, 60, 61, 63, 64], [1, 3, 4], (.ahead 0 [] (.ahead 2 [] (.ahead 3 [2] (.ahead 7 [] (.ahead 8 [7] (.ahead 9 [] (.ahead 10 [9, 8] (.ahead 11 [10] (.ahead 12 [11] (.ahead 15 [] (.ahead 16 [15] (.ahead 17 [] (.ahead 18 [17, 16] (.ahead 19 [18] (.ahead 20 [19] (.more 1 [] (.more 4 [3, 2] (.ahead 5 [] (.ahead 6 [5] (.ahead 13 [6, 12] (.ahead 14 [13] (.more 21 [20, 19, 18, 17, 16, 15] (.ahead 22 [14] (.ahead 23 [22, 0] (.more 24 [23, 22, 14, 13, 6, 5, 12, 11, 10, 9, 8, 7, 0] .done .stop))) .stop))))) .stop) (.more 4 [3, 2] (.more 1 [] (.ahead 5 [] (.ahead 6 [5] (.ahead 13 [6, 12] (.ahead 14 [13] (.more 21 [20, 19, 18, 17, 16, 15] (.ahead 22 [14] (.ahead 23 [22, 0] (.more 24 [23, 22, 14, 13, 6, 5, 12, 11, 10, 9, 8, 7, 0] .done .stop))) .stop))))) (.more 21 [20, 19, 18, 17, 16, 15] (.more 1 [] (.ahead 5 [] (.ahead 6 [5] (.ahead 13 [6, 12] (.ahead 14 [13] (.ahead 22 [14] (.ahead 23 [22, 0] (.more 24 [23, 22, 14, 13, 6, 5, 12, 11, 10, 9, 8, 7, 0] .done .stop))))))) .stop) .stop)) .stop)))))))))))))))))) .leaf .leaf) .leaf) .leaf .leaf) .leaf))) (.node 209 (.node 9 ([48, 49, 50, 51], [4, 5, 6], (.ahead 0 [] (.ahead 1 [] (.ahead 2 [] (.ahead 3 [2] (.more 4 [3, 2] (.more 5 [0] (.more 6 [1] (.more 7 [] .done .stop) .stop) .stop) .stop)))))) (.node 5 ([32, 33, 34, 35], [4, 5, 6], (.ahead 0 [] (.ahead 1 [] (.ahead 2 [] (.ahead 3 [2] (.more 4 [3, 2] (.more 5 [0] (.more 6 [1] (.more 7 [] .done .stop) .stop) .stop) .stop)))))) .leaf .leaf) (.node 17 ([101, 102, 103, 104, 105], [4, 5, 6], (.ahead 0 [] (.ahead 1 [] (.ahead 2 [1] (.ahead 3 [] (.ahead 4 [3] (.more 5 [4, 3] (.more 6 [0] (.more 7 [2, 1] (.more 8 [] .done .stop) .stop) .stop) .stop))))))) .leaf .leaf)) (.node 202 (.node 4 ([17, 18, 19, 20, 21, 22, 23], [2, 3, 4, 5, 9, 10], (.ahead 0 [] (.ahead 1 [] (.ahead 2 [] (.ahead 3 [] (.ahead 4 [] (.ahead 5 [4, 3] (.ahead 6 [5] (.more 7 [6, 5, 4, 3, 2, 1, 0] (.more 8 [] .done .stop) .stop))))))))) .leaf .leaf) (.node 181 (.node 4 ([11, 12, 13, 14, 15, 16, 17], [1, 3, 19], (.ahead 0 [] (.ahead 1 [] (.ahead 2 [1] (.ahead 3 [] (.ahead 4 [3, 2] (.ahead 5 [4] (.ahead 6 [5] (.more 7 [6, 5, 4, 3, 2, 1, 0] (.more 8 [] .done .stop) .stop))))))))) .leaf .leaf) (.node 180 (.node 4 ([14, 15, 16, 17, 18, 19, 20, 13, 22, 23], [1, 3, 4, 5], (.ahead 0 [] (.ahead 1 [] (.ahead 2 [1] (.ahead 3 [] (.ahead 4 [3, 2] (.ahead 5 [4] (.ahead 6 [5] (.more 7 [6, 5, 4, 3, 2, 1, 0] (.ahead 8 [] (.ahead 9 [8] (.ahead 10 [8] (.more 11 [9, 8] (.more 12 [10] .done .stop) .stop)))) .stop))))))))) .leaf .leaf) .leaf .leaf) .leaf) (.node 207 (.node 10 ([26, 27, 28, 29, 31, 32, 33, 34], [2, 5, 6, 7, 8, 9, 36], (.ahead 0 [] (.ahead 1 [] (.ahead 2 [1, 0] (.ahead 3 [2] (.ahead 5 [] (.ahead 6 [] (.ahead 7 [6, 5] (.ahead 8 [7] (.more 4 [3, 2, 1, 0] (.more 9 [8, 7, 6, 5] (.more 10 [] .done .stop) .stop) .stop)))))))))) .leaf .leaf) (.node 206 (.node 12 ([61, 62, 63, 64, 65, 66, 60, 68, 69], [1, 2, 3, 4, 10, 12, 13], (.ahead 0 [] (.ahead 1 [] (.ahead 2 [] (.ahead 3 [2, 1] (.ahead 4 [3] (.ahead 5 [4] (.more 6 [5, 4, 3, 2, 1, 0] (.ahead 7 [] (.ahead 8 [7] (.ahead 9 [7] (.more 10 [] (.more 11 [8, 7] (.more 12 [9] .done .stop) .stop) .stop)))) (.more 10 [] (.more 6 [5, 4, 3, 2, 1, 0] (.ahead 7 [] (.ahead 8 [7] (.ahead 9 [7] (.more 11 [8, 7] (.more 12 [9] .done .stop) .stop)))) .stop) .stop))))))))) .leaf .leaf) .leaf .leaf) .leaf)) (.node 223 (.node 11 ([48, 49, 50, 51, 52, 53, 54], [1, 2, 5, 6], (.ahead 0 [] (.ahead 1 [] (.ahead 2 [] (.ahead 3 [] (.ahead 4 [3, 2] (.ahead 5 [4] (.ahead 6 [5] (.more 7 [6, 5, 4, 3, 2, 1] (.more 8 [0] (.more 9 [] .done .stop) .stop) .stop))))))))) (.node 6 ([22, 23, 24, 25, 26, 27, 21, 29, 30], [1, 2, 5, 6, 7], (.ahead 0 [] (.ahead 1 [] (.ahead 2 [] (.ahead 3 [2, 1] (.ahead 4 [3] (.ahead 5 [4] (.more 6 [5, 4, 3, 2, 1, 0] (.ahead 7 [] (.ahead 8 [7] (.ahead 9 [7] (.more 10 [] (.more 11 [8, 7] (.more 12 [9] .done .stop) .stop) .stop)))) (.more 10 [] (.more 6 [5, 4, 3, 2, 1, 0] (.ahead 7 [] (.ahead 8 [7] (.ahead 9 [7] (.more 11 [8, 7] (.more 12 [9] .done .stop) .stop)))) .stop) .stop))))))))) .leaf .leaf) .leaf) (.node 222 (.node 30 ([108, 109, 110, 111, 112, 113, 114, 115, 116, 117, 118], [4, 5, 7, 13, 14, 119], (.ahead 0 [] (.ahead 1 [0] (.ahead 2 [] (.ahead 3 [2, 1] (.ahead 4 [3] (.ahead 5 [4] (.ahead 6 [5] (.ahead 7 [] (.ahead 8 [7] (.ahead 9 [8] (.ahead 10 [9] (.more 11 [10, 9, 8, 7, 6, 5, 4, 3, 2, 1, 0] .done .stop))))))))))))) (.node 27 ([97, 98, 99, 100, 101, 102, 103], [4, 5, 7, 13, 14, 15], (.ahead 0 [] (.ahead 1 [0] (.ahead 2 [] (.ahead 3 [2, 1] (.ahead 4 [3] (.ahead 5 [] (.ahead 6 [5] (.more 7 [6, 5, 4, 3, 2, 1, 0] (.more 8 [] .done .stop) .stop))))))))) (.node 23 ([84, 85, 86, 87, 89, 90], [4, 5, 7, 13], (.ahead 0 [] (.ahead 1 [0] (.ahead 2 [] (.ahead 3 [] (.more 4 [3, 2] (.ahead 5 [1] (.ahead 6 [5] (.more 7 [] (.more 8 [6, 5, 1, 0] .done .stop) .stop))) (.more 7 [] (.more 4 [3, 2] (.ahead 5 [1] (.ahead 6 [5] (.more 8 [6, 5, 1, 0] .done .stop))) .stop) .stop))))))) .leaf .leaf) .leaf) (.node 32 ([120, 121, 122, 123, 124, 125, 126, 127, 128, 129], [8], (.ahead 0 [] (.ahead 1 [] (.ahead 2 [] (.ahead 3 [2] (.ahead 4 [] (.ahead 5 [4, 3] (.ahead 6 [5] (.ahead 7 [6] (.ahead 8 [] (.ahead 9 [8] (.more 10 [9, 8, 7, 6, 5, 4, 3, 2, 1, 0] (.more 11 [] .done .stop) .stop)))))))))))) .leaf .leaf)) (.node 211 (.node 3 ([34, 35, 36, 37, 38, 39, 40, 41, 42, 43, 44, 45], [2], (.ahead 0 [] (.ahead 1 [0] (.ahead 2 [1] (.ahead 3 [2] (.ahead 4 [] (.ahead 5 [4] (.ahead 6 [5] (.ahead 7 [6] (.ahead 8 [7] (.ahead 9 [8, 3] (.ahead 10 [9] (.ahead 11 [10] (.more 12 [11, 10, 9, 8, 7, 6, 5, 4, 3, 2, 1, 0] .done .stop)))))))))))))) .leaf .leaf) .leaf .leaf) .leaf) (.node 237 (.node 4 ([18, 19, 20, 21, 22, 23, 24, 25, 26, 27], [0, 2, 3], (.ahead 0 [] (.ahead 1 [0] (.ahead 2 [1] (.ahead 3 [2] (.ahead 4 [] (.ahead 5 [4] (.ahead 6 [5] (.ahead 7 [6] (.ahead 8 [7, 3] (.ahead 9 [8] (.more 10 [] (.more 11 [9, 8, 7, 6, 5, 4, 3, 2, 1, 0] .done .stop) .stop)))))))))))) (.node 1 ([4, 5, 6, 7, 8, 9, 10, 11, 12], [0, 2, 13], (.ahead 0 [] (.ahead 1 [0] (.ahead 2 [1] (.ahead 3 [2] (.ahead 4 [] (.ahead 5 [4] (.ahead 6 [5] (.ahead 7 [6] (.ahead 8 [7] (.more 9 [8, 7, 6, 5, 4, 3, 2, 1, 0] .done .stop))))))))))) .leaf .leaf) .leaf) (.node 234 (.node 11 ([55, 56, 57, 58, 59, 60, 61, 62, 63, 64], [1, 2, 5, 8, 65], (.ahead 0 [] (.ahead 1 [] (.ahead 2 [1, 0] (.ahead 3 [2] (.ahead 4 [3] (.ahead 5 [] (.ahead 6 [] (.ahead 7 [6, 5] (.ahead 8 [7] (.ahead 9 [8] (.more 10 [9, 8, 7, 6, 5, 4, 3, 2, 1, 0] .done .stop)))))))))))) (.node 4 ([18, 19, 20, 21, 22, 23], [1, 2, 5, 6], (.ahead 0 [] (.ahead 1 [] (.ahead 2 [] (.ahead 3 [2, 1] (.ahead 4 [3] (.ahead 5 [4] (.more 6 [5, 4, 3, 2, 1, 0] (.more 7 [] .done .stop) .stop)))))))) .leaf .leaf) .leaf) .leaf .leaf) .leaf))))
def planAAtB (k id : Nat) : List Nat × List Nat × PlanA := match plansAB.find k with | some t => (match t.find id with | some p => p | none => ([], [], .stop)) | none => ([], [], .stop)
theorem aheadAtB (k : Nat) {E : Env} {id : Nat} {ops : Array Oper} {s : St} {K : Ex → St → R} (h1 : okA ops = true) (h3 : chkA ops (planAAtB k id).2.2 [] (Array.replicate ops.size false) true = true) (h : evalA E ops.toList K (planAAtB k id).2.2 [] ⟨masksT (planAAtB k id).1 s.tmps, s.objs⟩) : DrawP E id ops s K := .ahead _ _ h1 h3 h
end Go.Proofs.VT
set_option linter.unusedVariables false
set_option linter.unusedSimpArgs false
set_option maxRecDepth 100000
set_option maxHeartbeats 8000000
namespace Go.Proofs.SL
open Go Go.Proofs Go.Proofs.EN Go.Proofs.VT
variable {T : Tabs}
/-! ### Reading: that it comes to an end -/
abbrev oQ (tk : List Tok) (a : Int) (o p : Bool) : Ob := .box [.d (.list 74 (dToks tk)), .d (.int .i64 a), .d (.bool o), .d (.bool p)]
/-- A reader's place: nothing but what is read moves it. -/
abbrev mv (tk : List Tok) (a a' : Int) : Prop := a ≤ a' ∧ (a' = a ∨ a' ≤ tk.length)
def isT (tk : List Tok) (a k : Int) (s : Str) : Bool := decide (a < tk.length) && (decide (((tk[a.toNat]?).getD default).1 = k) && decide (((tk[a.toNat]?).getD default).2.2 = s))
theorem w210 {tk : List Tok} {a : Int} {o p : Bool} {k : Int} {s : Str} {Kr Kp : C → List Ob → R} (ha : 0 ≤ a ∧ a ≤ 1000000) (h : Kr (.d (.bool (isT tk a k s))) [oQ tk a o p]) : Wp T Tryz.prog tt 210 [.ref 0 0, .d (.int .i64 k), .d (.str s)] [oQ tk a o p] Kr Kp := by
  refine go (k := 210) (own := true) (cap := .deep) Tryz.func210 (by kernel_rfl) ?_
  (conv => whnf); repeat' (first | ((first | refine bdec ?_ ?_ | refine bnot ?_ ?_ | refine bsel_intro ?_ ?_ | skip) <;> intro hc <;> (try simp (disch := omega) only [nm, nq, dToks_len, dToks_0, dToks_1, dToks_2, Nat.reduceAdd, wrapI] at hc) <;> conv => whnf) | (refine .head _ rfl (by kernel_rfl) ?_; conv => whnf) | (refine And.intro ?_ ?_; (focus ((first | omega | decide | (simp (disch := omega) only [nm, nq, dToks_len, dToks_0, dToks_1, dToks_2, Nat.reduceAdd, wrapI] <;> omega) | (simp [strOf, nm, nq, dToks_len, dToks_0, dToks_1, dToks_2, Nat.reduceAdd] <;> omega) | exact Nat.le_of_ble_eq_true rfl | rfl); done)); conv => whnf) | (rw [vv]; conv => whnf) | (refine NilP.mk fun nb hnb => ?_; conv => whnf))
  · refine krB h ?_
    simp only [nm, nq, dToks_len, dToks_0, dToks_1, dToks_2, Nat.reduceAdd, isT, hc]; simp [*]
  · refine krB h ?_
    simp [isT, hc]
  · refine krB h ?_
    simp [isT, hc]
theorem w229 {tk : List Tok} {a : Int} {o p : Bool} {s : Str} {Kr Kp : C → List Ob → R} (ha : 0 ≤ a ∧ a ≤ 1000000) (h1 : a < tk.length → Kr (.d (.bool true)) [oQ tk (a + 1) o p]) (h2 : Kr (.d (.bool false)) [oQ tk a o p]) : Wp T Tryz.prog tt 229 [.ref 0 0, .d (.str s)] [oQ tk a o p] Kr Kp := by
  refine go (k := 229) (own := true) (cap := .deep) Tryz.func229 (by kernel_rfl) ?_
  (conv => whnf); repeat' (first | ((first | refine bdec ?_ ?_ | refine bnot ?_ ?_ | refine bsel_intro ?_ ?_ | skip) <;> intro hc <;> (try simp (disch := omega) only [nm, nq, dToks_len, dToks_0, dToks_1, dToks_2, Nat.reduceAdd, wrapI] at hc) <;> conv => whnf) | (refine .head _ rfl (by kernel_rfl) ?_; conv => whnf) | (refine w210 ha ?_; conv => whnf) | (apply pcall; (focus (intro _ _ hk; first | exact w210 ha hk)); conv => whnf) | (refine And.intro ?_ ?_; (focus ((first | omega | decide | (simp (disch := omega) only [nm, nq, dToks_len, dToks_0, dToks_1, dToks_2, Nat.reduceAdd, wrapI] <;> omega) | (simp [strOf, nm, nq, dToks_len, dToks_0, dToks_1, dToks_2, Nat.reduceAdd] <;> omega) | exact Nat.le_of_ble_eq_true rfl | rfl); done)); conv => whnf) | (rw [vv]; conv => whnf) | (refine NilP.mk fun nb hnb => ?_; conv => whnf))
  · have : a < tk.length := by simp only [isT, Bool.and_eq_true, decide_eq_true_eq] at hc; exact hc.1
    rw [wrapI (by omega) (by omega)]
    exact h1 this
  · exact h2
theorem w228 {tk : List Tok} {a : Int} {o p : Bool} {s : Str} {Kr Kp : C → List Ob → R} (ha : 0 ≤ a ∧ a ≤ 1000000) (h1 : a < tk.length → Kr (.tuple []) [oQ tk (a + 1) o p]) (h2 : Kr (.tuple []) [oQ tk a false p]) : Wp T Tryz.prog tt 228 [.ref 0 0, .d (.str s)] [oQ tk a o p] Kr Kp := by
  refine go (k := 228) (own := true) (cap := .deep) Tryz.func228 (by kernel_rfl) ?_
  (conv => whnf); repeat' (first | ((first | refine bdec ?_ ?_ | refine bnot ?_ ?_ | refine bsel_intro ?_ ?_ | skip) <;> intro hc <;> (try simp (disch := omega) only [nm, nq, dToks_len, dToks_0, dToks_1, dToks_2, Nat.reduceAdd, wrapI] at hc) <;> conv => whnf) | (refine .head _ rfl (by kernel_rfl) ?_; conv => whnf) | (refine w229 ha ?_ ?_ <;> conv => whnf) | (apply pcall; (focus (intro _ _ hk; first | exact w229 ha ?_ ?_ hk)); conv => whnf) | (refine And.intro ?_ ?_; (focus ((first | omega | decide | (simp (disch := omega) only [nm, nq, dToks_len, dToks_0, dToks_1, dToks_2, Nat.reduceAdd, wrapI] <;> omega) | (simp [strOf, nm, nq, dToks_len, dToks_0, dToks_1, dToks_2, Nat.reduceAdd] <;> omega) | exact Nat.le_of_ble_eq_true rfl | rfl); done)); conv => whnf) | (rw [vv]; conv => whnf) | (refine NilP.mk fun nb hnb => ?_; conv => whnf))
  · exact h1 hc
  · exact h2
theorem w211 {tk : List Tok} {a : Int} {o p : Bool} {Kr Kp : C → List Ob → R} (ha : 0 ≤ a ∧ a ≤ 1000000) (h1 : ∀ s, a < tk.length → Kr (.d (.str s)) [oQ tk (a + 1) o p]) (h2 : Kr (.d (.str [])) [oQ tk a false p]) : Wp T Tryz.prog tt 211 [.ref 0 0] [oQ tk a o p] Kr Kp := by
  refine go (k := 211) (own := true) (cap := .deep) Tryz.func211 (by kernel_rfl) ?_
  (conv => whnf); repeat' (first | ((first | refine bdec ?_ ?_ | refine bnot ?_ ?_ | refine bsel_intro ?_ ?_ | skip) <;> intro hc <;> (try simp (disch := omega) only [nm, nq, dToks_len, dToks_0, dToks_1, dToks_2, Nat.reduceAdd, wrapI] at hc) <;> conv => whnf) | (refine .head _ rfl (by kernel_rfl) ?_; conv => whnf) | (refine And.intro ?_ ?_; (focus ((first | omega | decide | (simp (disch := omega) only [nm, nq, dToks_len, dToks_0, dToks_1, dToks_2, Nat.reduceAdd, wrapI] <;> omega) | (simp [strOf, nm, nq, dToks_len, dToks_0, dToks_1, dToks_2, Nat.reduceAdd] <;> omega) | exact Nat.le_of_ble_eq_true rfl | rfl); done)); conv => whnf) | (rw [vv]; conv => whnf) | (refine NilP.mk fun nb hnb => ?_; conv => whnf))
  · have e : IntKind.i64.wrap (a + 1) = a + 1 := wrapI (by omega) (by omega)
    rw [e]
    exact h1 _ (by omega)
  · exact h2
  · exact h2
abbrev cVal (v : QVal) : C := .agg [.d (.int .i64 v.1), .d (.int .i64 v.2.1), .d (.str v.2.2)]
theorem w237 {tk : List Tok} {a : Int} {o p : Bool} {Kr Kp : C → List Ob → R} (ha : 0 ≤ a ∧ a ≤ 1000000) (h1 : ∀ (k n : Int) (s : Str), a < tk.length → Kr (cVal (k, n, s)) [oQ tk (a + 1) o p]) (h2 : ∀ (k n : Int) (s : Str) (a' : Int), mv tk a a' → Kr (cVal (k, n, s)) [oQ tk a' false p]) : Wp T Tryz.prog tt 237 [.ref 0 0] [oQ tk a o p] Kr Kp := by
  refine go (k := 237) (own := true) (cap := .deep) Tryz.func237 (by kernel_rfl) ?_
  (conv => whnf); repeat' (first | ((first | refine bdec ?_ ?_ | refine bnot ?_ ?_ | refine bsel_intro ?_ ?_ | skip) <;> intro hc <;> (try simp (disch := omega) only [nm, nq, dToks_len, dToks_0, dToks_1, dToks_2, Nat.reduceAdd, wrapI] at hc) <;> conv => whnf) | (refine .head _ rfl (by kernel_rfl) ?_; conv => whnf) | (refine aheadAtB 237 (by kernel_rfl) (by kernel_rfl) ?_; conv => whnf) | (refine PAnd.mk ?_ ?_ <;> conv => whnf) | exact PTrue.mk | (refine .head _ rfl (by kernel_rfl) ?_; conv => whnf) | (refine w238 ?_; conv => whnf) | (refine w50 ?_; conv => whnf) | (apply pcall; (focus (intro _ _ hk; first | exact w238 hk | exact w50 hk)); conv => whnf) | (refine And.intro ?_ ?_; (focus ((first | omega | decide | (simp (disch := omega) only [nm, nq, dToks_len, dToks_0, dToks_1, dToks_2, Nat.reduceAdd, wrapI] <;> omega) | (simp [strOf, nm, nq, dToks_len, dToks_0, dToks_1, dToks_2, Nat.reduceAdd] <;> omega) | exact Nat.le_of_ble_eq_true rfl | rfl); done)); conv => whnf) | (rw [vv]; conv => whnf) | (refine NilP.mk fun nb hnb => ?_; conv => whnf))
  · exact h2 _ _ _ _ ⟨by omega, .inl rfl⟩
  all_goals
    have e : IntKind.i64.wrap (a + 1) = a + 1 := wrapI (by omega) (by omega)
    rw [e]
    first
      | exact h1 _ _ _ (by omega)
      | exact h2 _ _ _ _ ⟨by omega, .inr (by omega)⟩
end Go.Proofs.SL
