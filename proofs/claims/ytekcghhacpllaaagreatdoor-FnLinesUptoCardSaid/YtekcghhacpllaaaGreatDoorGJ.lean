/- Contracts of functions of this program, by the evaluator EN. No conditions but those that each theorem states. -/
import Derived.Test.YtekcghhacpllaaaGreatDoorGB
import Derived.Test.YtekcghhacpllaaaGreatDoorGD
import Derived.Test.YtekcghhacpllaaaGreatDoorLE
import Derived.Test.YtekcghhacpllaaaGreatDoorMM
set_option linter.unusedVariables false
set_option linter.unusedSimpArgs false
set_option maxRecDepth 100000
set_option maxHeartbeats 8000000
namespace Go.Proofs.SL
open Go Go.Proofs Go.Proofs.EN Go.Proofs.VT
variable {T : Tabs}
/-! ### Acts read -/
abbrev Act := Int × Int × Str
def cAct (a : Act) : C := .agg [.d (.int .i64 a.1), .d (.int .i64 a.2.1), .d (.str a.2.2)]
def actB (a : Act) : Bool := inB a.1 1 4 && (inB a.2.1 0 1000000 && (decide (a.2.2.length ≤ 65536) && ((decide (a.1 = 1) || decide (a.2.2 = [])) && (inB a.1 2 3 || decide (a.2.1 = 0)))))
theorem w100 {k i : Int} {s : Str} {Kr Kp : C → List Ob → R} (h : Kr (.d (.bool (actB (k, i, s)))) []) : Wp T Tryz.prog tt 100 [.agg [.d (.int .i64 k), .d (.int .i64 i), .d (.str s)]] [] Kr Kp := by
  refine go (k := 100) (own := true) (cap := .deep) Tryz.func100 (by kernel_rfl) ?_
  (conv => whnf); repeat' (first | ((first | refine bdec ?_ ?_ | refine bnot ?_ ?_ | refine bsel_intro ?_ ?_ | skip) <;> intro hc <;> (try simp (disch := omega) only [nm, wrapI] at hc) <;> conv => whnf) | (refine .head _ rfl (by kernel_rfl) ?_; conv => whnf) | (refine w29 ?_; conv => whnf) | (apply pcall; (focus (intro _ _ hk; first | exact w29 hk)); conv => whnf) | (refine And.intro ?_ ?_; (focus ((first | omega | decide | (simp (disch := omega) only [nm, wrapI] <;> omega) | (simp [strOf, nm] <;> omega) | exact Nat.le_of_ble_eq_true rfl | rfl); done)); conv => whnf) | (rw [vv]; conv => whnf) | (refine NilP.mk fun nb hnb => ?_; conv => whnf))
  all_goals (refine krB h ?_; simp only [actB, inB] at *; grind)
def rightB (a : Act) : Bool := if a.1 = 1 then decide (a.2.1 = 0) else if a.1 = 2 ∨ a.1 = 3 then inB a.2.1 0 1000000 && decide (a.2.2 = []) else if a.1 = 4 then decide (a.2.1 = 0) && decide (a.2.2 = []) else false
theorem w68 {k i : Int} {s : Str} {Kr Kp : C → List Ob → R} (h : Kr (.d (.bool (rightB (k, i, s)))) []) : Wp T Tryz.prog tt 68 [.agg [.d (.int .i64 k), .d (.int .i64 i), .d (.str s)]] [] Kr Kp := by
  refine go (k := 68) (own := true) (cap := .deep) Tryz.func68 (by kernel_rfl) ?_
  (conv => whnf); repeat' (first | ((first | refine bdec ?_ ?_ | refine bnot ?_ ?_ | refine bsel_intro ?_ ?_ | skip) <;> intro hc <;> (try simp (disch := omega) only [nm, wrapI] at hc) <;> conv => whnf) | (refine .head _ rfl (by kernel_rfl) ?_; conv => whnf) | (refine w34 ?_; conv => whnf) | (apply pcall; (focus (intro _ _ hk; first | exact w34 hk)); conv => whnf) | (refine And.intro ?_ ?_; (focus ((first | omega | decide | (simp (disch := omega) only [nm, wrapI] <;> omega) | (simp [strOf, nm] <;> omega) | exact Nat.le_of_ble_eq_true rfl | rfl); done)); conv => whnf) | (rw [vv]; conv => whnf) | (refine NilP.mk fun nb hnb => ?_; conv => whnf))
  all_goals (refine krB h ?_; simp only [rightB, inB] at *; grind)
theorem w88 {t : Str} {Kr Kp : C → List Ob → R} (h : Kr (.d (.bool (decide (65536 < t.length)))) []) : Wp T Tryz.prog tt 88 [.d (.str t)] [] Kr Kp := by
  refine go (k := 88) (own := true) (cap := .deep) Tryz.func88 (by kernel_rfl) ?_
  (conv => whnf); repeat' (first | ((first | refine bdec ?_ ?_ | refine bnot ?_ ?_ | refine bsel_intro ?_ ?_ | skip) <;> intro hc <;> (try simp (disch := omega) only [nm, wrapI] at hc) <;> conv => whnf) | (refine .head _ rfl (by kernel_rfl) ?_; conv => whnf) | (refine And.intro ?_ ?_; (focus ((first | omega | decide | (simp (disch := omega) only [nm, wrapI] <;> omega) | (simp [strOf, nm] <;> omega) | exact Nat.le_of_ble_eq_true rfl | rfl); done)); conv => whnf) | (rw [vv]; conv => whnf) | (refine NilP.mk fun nb hnb => ?_; conv => whnf))
  refine krB h ?_; rw [decide_eq_decide]; omega
theorem w123 {t : Str} {Kr Kp : C → List Ob → R} (h : Kr (.d (.int .i64 (if 65536 < t.length then 0 else -1))) []) : Wp T Tryz.prog tt 123 [.d (.list 9 (dStr [t])), .func 88 []] [] Kr Kp := by
  refine go (k := 123) (own := true) (cap := .deep) Tryz.func123 (by kernel_rfl) ?_
  (conv => whnf); repeat' (first | ((first | refine bdec ?_ ?_ | refine bnot ?_ ?_ | refine bsel_intro ?_ ?_ | skip) <;> intro hc <;> (try simp (disch := omega) only [nm, wrapI] at hc) <;> conv => whnf) | (refine .head _ rfl (by kernel_rfl) ?_; conv => whnf) | (refine And.intro ?_ ?_; (focus ((first | omega | decide | (simp (disch := omega) only [nm, wrapI] <;> omega) | (simp [strOf, nm] <;> omega) | exact Nat.le_of_ble_eq_true rfl | rfl); done)); conv => whnf) | (rw [vv]; conv => whnf) | (refine NilP.mk fun nb hnb => ?_; conv => whnf))
  refine loopOf (fun i : Nat => ⟨[(0, .d (.list 9 (dStr [t]))), (1, .func 88 []), (7, .d (.int .i64 ((dStr [t]).length : Int))), (8, .d (.int .i64 (i : Int)))], []⟩) (fun i => i ≤ 1 ∧ (i = 1 → ¬ 65536 < t.length)) (fun i => 1 - i) 0 rfl ⟨by omega, by omega⟩ ?_
  intro i I hi rec
  rcases Nat.eq_zero_or_pos i with rfl | h0
  · (conv => whnf); repeat' (first | ((first | refine bdec ?_ ?_ | refine bnot ?_ ?_ | refine bsel_intro ?_ ?_ | skip) <;> intro hc <;> (try simp (disch := omega) only [nm, wrapI] at hc) <;> conv => whnf) | (refine .head _ rfl (by kernel_rfl) ?_; conv => whnf) | (refine w88 ?_; conv => whnf) | (apply pcall; (focus (intro _ _ hk; first | exact w88 hk)); conv => whnf) | (refine And.intro ?_ ?_; (focus ((first | omega | decide | (simp (disch := omega) only [nm, wrapI] <;> omega) | (simp [strOf, nm] <;> omega) | exact Nat.le_of_ble_eq_true rfl | rfl); done)); conv => whnf) | (rw [vv]; conv => whnf) | (refine NilP.mk fun nb hnb => ?_; conv => whnf))
    · have hc : 65536 < t.length := hc
      rw [if_pos hc] at h; exact h
    · refine eqI (rec 1 ⟨by omega, fun _ => hc⟩ (by omega)) ?_
      simp (disch := omega) only [wrapI]; rfl
  · obtain rfl : i = 1 := by omega
    (conv => whnf); repeat' (first | ((first | refine bdec ?_ ?_ | refine bnot ?_ ?_ | refine bsel_intro ?_ ?_ | skip) <;> intro hc <;> (try simp (disch := omega) only [nm, wrapI] at hc) <;> conv => whnf) | (refine .head _ rfl (by kernel_rfl) ?_; conv => whnf) | (refine And.intro ?_ ?_; (focus ((first | omega | decide | (simp (disch := omega) only [nm, wrapI] <;> omega) | (simp [strOf, nm] <;> omega) | exact Nat.le_of_ble_eq_true rfl | rfl); done)); conv => whnf) | (rw [vv]; conv => whnf) | (refine NilP.mk fun nb hnb => ?_; conv => whnf))
    rw [if_neg (hi.2 rfl)] at h; exact h
theorem w87 {t : Str} {Kr Kp : C → List Ob → R} (h : Kr (.d (.bool (decide (65536 < t.length)))) []) : Wp T Tryz.prog tt 87 [.d (.list 9 (dStr [t])), .func 88 []] [] Kr Kp := by
  refine go (k := 87) (own := true) (cap := .deep) Tryz.func87 (by kernel_rfl) ?_
  (conv => whnf); repeat' (first | ((first | refine bdec ?_ ?_ | refine bnot ?_ ?_ | refine bsel_intro ?_ ?_ | skip) <;> intro hc <;> (try simp (disch := omega) only [nm, wrapI] at hc) <;> conv => whnf) | (refine .head _ rfl (by kernel_rfl) ?_; conv => whnf) | (refine w123 ?_; conv => whnf) | (apply pcall; (focus (intro _ _ hk; first | exact w123 hk)); conv => whnf) | (refine And.intro ?_ ?_; (focus ((first | omega | decide | (simp (disch := omega) only [nm, wrapI] <;> omega) | (simp [strOf, nm] <;> omega) | exact Nat.le_of_ble_eq_true rfl | rfl); done)); conv => whnf) | (rw [vv]; conv => whnf) | (refine NilP.mk fun nb hnb => ?_; conv => whnf))
  refine krB h ?_; split <;> simp_all
theorem w46 {t : Str} {Kr Kp : C → List Ob → R} (h : Kr (.d (.bool (decide (t.length ≤ 65536)))) []) : Wp T Tryz.prog tt 46 [.d (.list 9 (dStr [t]))] [] Kr Kp := by
  refine go (k := 46) (own := true) (cap := .deep) Tryz.func46 (by kernel_rfl) ?_
  (conv => whnf); repeat' (first | ((first | refine bdec ?_ ?_ | refine bnot ?_ ?_ | refine bsel_intro ?_ ?_ | skip) <;> intro hc <;> (try simp (disch := omega) only [nm, wrapI] at hc) <;> conv => whnf) | (refine .head _ rfl (by kernel_rfl) ?_; conv => whnf) | (refine w87 ?_; conv => whnf) | (apply pcall; (focus (intro _ _ hk; first | exact w87 hk)); conv => whnf) | (refine And.intro ?_ ?_; (focus ((first | omega | decide | (simp (disch := omega) only [nm, wrapI] <;> omega) | (simp [strOf, nm] <;> omega) | exact Nat.le_of_ble_eq_true rfl | rfl); done)); conv => whnf) | (rw [vv]; conv => whnf) | (refine NilP.mk fun nb hnb => ?_; conv => whnf))
  refine krB h ?_
  rw [show decide (65536 < t.length) = !decide (t.length ≤ 65536) by rw [← decide_not, decide_eq_decide]; omega]; simp
/-! ### What an act's text says -/
abbrev tAsk : Str := [97, 115, 107]
abbrev tTick : Str := [116, 105, 99, 107]
abbrev tStep : Str := [115, 116, 101, 112]
abbrev tCancel : Str := [99, 97, 110, 99, 101, 108]
def actN (k : Int) (w : Str) : Option Act := match intO w with
  | some n => if 0 ≤ n ∧ n ≤ 1000000 then some (k, n, []) else none
  | none => none
def actO : List Str → Option Act
  | [] => none
  | w0 :: r => if w0 = tAsk then some (1, 0, Lib.join r [32]) else match r with
    | [] => if w0 = tTick then some (4, 0, []) else none
    | [w1] => if w0 = tStep then actN 2 w1 else if w0 = tCancel then actN 3 w1 else none
    | _ => none
def isA (o : Option Act) (a : Act) : Prop := ∀ x, o = some x → a = x
theorem krA {Kr : C → List Ob → R} {o : Option Act} {k i : Int} {s : Str} {b : Bool} (h : ∀ a, isA o a → Kr (.tuple [cAct a, .d (.bool o.isSome)]) []) (e : o.isSome = b) (ha : b = true → o = some (k, i, s)) : Kr (.tuple [.agg [.d (.int .i64 k), .d (.int .i64 i), .d (.str s)], .d (.bool b)]) [] := by
  subst e
  exact h (k, i, s) fun x hx => by rw [ha (by rw [hx]; rfl)] at hx; exact Option.some.inj hx
theorem w60 {ws : List Str} {Kr Kp : C → List Ob → R} (hE : HasErr T) (hP : HasPow T) (hw : ∀ w ∈ ws, w.length ≤ 65536) (hj : ∀ w0 r, ws = w0 :: r → (Lib.join r [32]).length ≤ 65536) (h : ∀ a, isA (actO ws) a → Kr (.tuple [cAct a, .d (.bool (actO ws).isSome)]) []) : Wp T Tryz.prog tt 60 [.d (.list 9 (dStr ws))] [] Kr Kp := by
  refine go (k := 60) (own := true) (cap := .deep) Tryz.func60 (by kernel_rfl) ?_
  rcases ws with _ | ⟨w0, r⟩
  · (conv => whnf); repeat' (first | ((first | refine bdec ?_ ?_ | refine bnot ?_ ?_ | refine bsel_intro ?_ ?_ | skip) <;> intro hc <;> (try simp (disch := omega) only [nm, Int.natCast_zero, Int.lt_irrefl, wrapI] at hc) <;> conv => whnf) | (refine .head _ rfl (by kernel_rfl) ?_; conv => whnf) | (refine And.intro ?_ ?_; (focus ((first | omega | decide | (simp (disch := omega) only [nm, Int.natCast_zero, Int.lt_irrefl, wrapI] <;> omega) | (simp [strOf, nm, Int.natCast_zero, Int.lt_irrefl] <;> omega) | exact Nat.le_of_ble_eq_true rfl | rfl); done)); conv => whnf) | (rw [vv]; conv => whnf) | (refine NilP.mk fun nb hnb => ?_; conv => whnf))
    exact krA h rfl (fun h => by cases h)
  by_cases ha : w0 = [97, 115, 107]
  · have hb := hj w0 r rfl
    (conv => whnf); repeat' (first | ((first | refine bdec ?_ ?_ | refine bnot ?_ ?_ | refine bsel_intro ?_ ?_ | skip) <;> intro hc <;> (try simp (disch := omega) only [nm, List.getElem?_cons_zero, Option.getD_some, Int.reduceToNat, ha, eq_self, wrapI] at hc) <;> conv => whnf) | (refine .head _ rfl (by kernel_rfl) ?_; conv => whnf) | (refine And.intro ?_ ?_; (focus ((first | omega | decide | (simp (disch := omega) only [nm, List.getElem?_cons_zero, Option.getD_some, Int.reduceToNat, ha, eq_self, wrapI] <;> omega) | (simp [strOf, nm, List.getElem?_cons_zero, Option.getD_some, Int.reduceToNat, ha, eq_self] <;> omega) | exact Nat.le_of_ble_eq_true rfl | rfl); done)); conv => whnf) | (rw [vv]; conv => whnf) | (refine NilP.mk fun nb hnb => ?_; conv => whnf))
    all_goals first | (exfalso; omega) | skip
    refine wpArgs (xs' := [.d (.list 9 (dStr r)), .d (.str [32])]) (by simp [dStr, List.take_of_length_le]) (w48 (by omega) ?_)
    (conv => whnf); repeat' (first | ((first | refine bdec ?_ ?_ | refine bnot ?_ ?_ | refine bsel_intro ?_ ?_ | skip) <;> intro hc <;> (try simp (disch := omega) only [nm, wrapI] at hc) <;> conv => whnf) | (refine .head _ rfl (by kernel_rfl) ?_; conv => whnf) | (refine And.intro ?_ ?_; (focus ((first | omega | decide | (simp (disch := omega) only [nm, wrapI] <;> omega) | (simp [strOf, nm] <;> omega) | exact Nat.le_of_ble_eq_true rfl | rfl); done)); conv => whnf) | (rw [vv]; conv => whnf) | (refine NilP.mk fun nb hnb => ?_; conv => whnf))
    exact krA h (by simp [actO, ha]) (fun _ => by simp [actO, ha])
  have hw1 : ∀ w1 ∈ r, w1.length ≤ 16777216 := fun w hm => by have := hw w (List.mem_cons_of_mem _ hm); omega
  rcases r with _ | ⟨w1, _ | ⟨w2, r⟩⟩
  all_goals
    (conv => whnf); repeat' (first | ((first | refine bdec ?_ ?_ | refine bnot ?_ ?_ | refine bsel_intro ?_ ?_ | skip) <;> intro hc <;> (try simp (disch := omega) only [nm, List.getElem?_cons_zero, List.getElem?_cons_succ, Option.getD_some, Int.reduceToNat, ha, wrapI] at hc) <;> conv => whnf) | (refine .head _ rfl (by kernel_rfl) ?_; conv => whnf) | (refine And.intro ?_ ?_; (focus ((first | omega | decide | (simp (disch := omega) only [nm, List.getElem?_cons_zero, List.getElem?_cons_succ, Option.getD_some, Int.reduceToNat, ha, wrapI] <;> omega) | (simp [strOf, nm, List.getElem?_cons_zero, List.getElem?_cons_succ, Option.getD_some, Int.reduceToNat, ha] <;> omega) | exact Nat.le_of_ble_eq_true rfl | rfl); done)); conv => whnf) | (rw [vv]; conv => whnf) | (refine NilP.mk fun nb hnb => ?_; conv => whnf))
    all_goals first | (exfalso; omega) | (exact absurd ‹w0 = _› ‹¬ w0 = _›) | skip
    all_goals first
      | (refine krA h ?_ ?_ <;> simp_all [actO]; done)
      | (refine wpArgs (xs' := [.d (.str w1)]) rfl (w95 hE hP (hw1 w1 (by simp)) ?_); conv => whnf)
      | skip
    all_goals (conv => whnf); repeat' (first | ((first | refine bdec ?_ ?_ | refine bnot ?_ ?_ | refine bsel_intro ?_ ?_ | skip) <;> intro hc <;> (try simp (disch := omega) only [nm, wrapI] at hc) <;> conv => whnf) | (refine anyAtF 60 (by kernel_rfl) (by kernel_rfl) ?_; conv => whnf) | (refine PAnd.mk ?_ ?_ <;> conv => whnf) | exact PTrue.mk | (refine .head _ rfl (by kernel_rfl) ?_; conv => whnf) | (refine w68 ?_; conv => whnf) | (apply pcall; (focus (intro _ _ hk; first | exact w68 hk)); conv => whnf) | (refine And.intro ?_ ?_; (focus ((first | omega | decide | (simp (disch := omega) only [nm, wrapI] <;> omega) | (simp [strOf, nm] <;> omega) | exact Nat.le_of_ble_eq_true rfl | rfl); done)); conv => whnf) | (rw [vv]; conv => whnf) | (refine NilP.mk fun nb hnb => ?_; conv => whnf))
    all_goals first | (exact absurd ‹w0 = _› ‹¬ w0 = _›) | skip
    all_goals (refine krA h ?_ ?_ <;> cases hi : intO w1 <;> simp_all [actO, actN, rightB, inB] <;> grind)
theorem lens_cons (x : Str) (r : List Str) : Lib.lens (x :: r) = x.length + Lib.lens r := by simp [Lib.lens]
theorem lens_filter (p : Str → Bool) : ∀ l : List Str, Lib.lens (l.filter p) + (l.filter p).length ≤ Lib.lens l + l.length
  | [] => by simp
  | x :: l => by
    have := lens_filter p l
    by_cases hp : p x = true
    · rw [List.filter_cons_of_pos hp, lens_cons, lens_cons]; simp only [List.length_cons]; omega
    · rw [List.filter_cons_of_neg hp, lens_cons]; simp only [List.length_cons]; omega
theorem words_tight (t : Str) : Lib.lens (words t) + (words t).length ≤ t.length + 1 := by
  have h1 := lens_filter (fun w => !decide (w = [])) (cutGo 32 [] t)
  have h2 := cutGo_lens 32 t []
  rw [words, words_cut]
  simp only [List.length_nil, Nat.zero_add] at h2
  exact Nat.le_trans h1 (Nat.le_of_eq h2)
theorem join_words {t w0 : Str} {r : List Str} (h : words t = w0 :: r) : (Lib.join r [32]).length ≤ t.length := by
  have h1 := words_tight t
  rw [h, lens_cons] at h1
  simp only [List.length_cons] at h1
  cases r with
  | nil => simp [Lib.join_nil]
  | cons x r =>
    rw [Lib.join_length]
    simp only [List.length_cons, List.length_nil] at h1 ⊢
    omega
theorem w62 {t : Str} {Kr Kp : C → List Ob → R} (ht : t.length ≤ 65536) (h : ∀ a, isA (actO (words t)) a → Kr (.tuple [cAct a, .d (.bool (actO (words t)).isSome)]) []) : Wp T Tryz.prog tt 62 [.d (.str t)] [] Kr Kp := by
  refine go (k := 62) (own := true) (cap := .deep) Tryz.func62 (by kernel_rfl) ?_
  conv => whnf
  refine w99 (by omega) ?_
  have hj : ∀ w0 r, words t = w0 :: r → (Lib.join r [32]).length ≤ 65536 := fun w0 r hr => by have := join_words hr; omega
  generalize words t = ws at h hj ⊢
  rcases ws with _ | ⟨w0, r⟩
  · (conv => whnf); repeat' (first | ((first | refine bdec ?_ ?_ | refine bnot ?_ ?_ | refine bsel_intro ?_ ?_ | skip) <;> intro hc <;> (try simp (disch := omega) only [nm, Int.natCast_zero, Int.lt_irrefl, wrapI] at hc) <;> conv => whnf) | (refine .head _ rfl (by kernel_rfl) ?_; conv => whnf) | (refine And.intro ?_ ?_; (focus ((first | omega | decide | (simp (disch := omega) only [nm, Int.natCast_zero, Int.lt_irrefl, wrapI] <;> omega) | (simp [strOf, nm, Int.natCast_zero, Int.lt_irrefl] <;> omega) | exact Nat.le_of_ble_eq_true rfl | rfl); done)); conv => whnf) | (rw [vv]; conv => whnf) | (refine NilP.mk fun nb hnb => ?_; conv => whnf))
    exact krA h rfl (fun h => by cases h)
  by_cases ha : w0 = [97, 115, 107]
  · have hb := hj w0 r rfl
    (conv => whnf); repeat' (first | ((first | refine bdec ?_ ?_ | refine bnot ?_ ?_ | refine bsel_intro ?_ ?_ | skip) <;> intro hc <;> (try simp (disch := omega) only [nm, List.getElem?_cons_zero, Option.getD_some, Int.reduceToNat, ha, eq_self, wrapI] at hc) <;> conv => whnf) | (refine anyAtF 62 (by kernel_rfl) (by kernel_rfl) ?_; conv => whnf) | (refine PAnd.mk ?_ ?_ <;> conv => whnf) | exact PTrue.mk | (refine .head _ rfl (by kernel_rfl) ?_; conv => whnf) | (refine w100 ?_; conv => whnf) | (apply pcall; (focus (intro _ _ hk; first | exact w100 hk)); conv => whnf) | (refine And.intro ?_ ?_; (focus ((first | omega | decide | (simp (disch := omega) only [nm, List.getElem?_cons_zero, Option.getD_some, Int.reduceToNat, ha, eq_self, wrapI] <;> omega) | (simp [strOf, nm, List.getElem?_cons_zero, Option.getD_some, Int.reduceToNat, ha, eq_self] <;> omega) | exact Nat.le_of_ble_eq_true rfl | rfl); done)); conv => whnf) | (rw [vv]; conv => whnf) | (refine NilP.mk fun nb hnb => ?_; conv => whnf))
    all_goals first | (exfalso; omega) | skip
    refine wpArgs (xs' := [.d (.list 9 (dStr r)), .d (.str [32])]) (by simp [dStr, List.take_of_length_le]) (w80 (by omega) ?_)
    (conv => whnf); repeat' (first | ((first | refine bdec ?_ ?_ | refine bnot ?_ ?_ | refine bsel_intro ?_ ?_ | skip) <;> intro hc <;> (try simp (disch := omega) only [nm, wrapI] at hc) <;> conv => whnf) | (refine anyAtF 62 (by kernel_rfl) (by kernel_rfl) ?_; conv => whnf) | (refine PAnd.mk ?_ ?_ <;> conv => whnf) | exact PTrue.mk | (refine .head _ rfl (by kernel_rfl) ?_; conv => whnf) | (refine w100 ?_; conv => whnf) | (apply pcall; (focus (intro _ _ hk; first | exact w100 hk)); conv => whnf) | (refine And.intro ?_ ?_; (focus ((first | omega | decide | (simp (disch := omega) only [nm, wrapI] <;> omega) | (simp [strOf, nm] <;> omega) | exact Nat.le_of_ble_eq_true rfl | rfl); done)); conv => whnf) | (rw [vv]; conv => whnf) | (refine NilP.mk fun nb hnb => ?_; conv => whnf))
    all_goals (have e : actB (1, 0, Lib.join r [32]) = true := by simp [actB, inB, hb])
    all_goals (refine krA h ?_ ?_ <;> simp [actO, ha, e])
  rcases r with _ | ⟨w1, _ | ⟨w2, r⟩⟩
  all_goals
    (conv => whnf); repeat' (first | ((first | refine bdec ?_ ?_ | refine bnot ?_ ?_ | refine bsel_intro ?_ ?_ | skip) <;> intro hc <;> (try simp (disch := omega) only [nm, List.getElem?_cons_zero, List.getElem?_cons_succ, Option.getD_some, Int.reduceToNat, ha, wrapI] at hc) <;> conv => whnf) | (refine anyAtF 62 (by kernel_rfl) (by kernel_rfl) ?_; conv => whnf) | (refine PAnd.mk ?_ ?_ <;> conv => whnf) | exact PTrue.mk | (refine .head _ rfl (by kernel_rfl) ?_; conv => whnf) | (refine w100 ?_; conv => whnf) | (apply pcall; (focus (intro _ _ hk; first | exact w100 hk)); conv => whnf) | (refine And.intro ?_ ?_; (focus ((first | omega | decide | (simp (disch := omega) only [nm, List.getElem?_cons_zero, List.getElem?_cons_succ, Option.getD_some, Int.reduceToNat, ha, wrapI] <;> omega) | (simp [strOf, nm, List.getElem?_cons_zero, List.getElem?_cons_succ, Option.getD_some, Int.reduceToNat, ha] <;> omega) | exact Nat.le_of_ble_eq_true rfl | rfl); done)); conv => whnf) | (rw [vv]; conv => whnf) | (refine NilP.mk fun nb hnb => ?_; conv => whnf))
    all_goals first | (exfalso; omega) | (exact absurd ‹w0 = _› ‹¬ w0 = _›) | skip
    all_goals first
      | (refine krA h ?_ ?_ <;> simp_all [actO] <;> omega)
      | (refine wpArgs (xs' := [.d (.str w1)]) rfl (w101 (fun v hv => ?_)); (conv => whnf); repeat' (first | ((first | refine bdec ?_ ?_ | refine bnot ?_ ?_ | refine bsel_intro ?_ ?_ | skip) <;> intro hc <;> (try simp (disch := omega) only [nm, wrapI] at hc) <;> conv => whnf) | (refine anyAtF 62 (by kernel_rfl) (by kernel_rfl) ?_; conv => whnf) | (refine PAnd.mk ?_ ?_ <;> conv => whnf) | exact PTrue.mk | (refine .head _ rfl (by kernel_rfl) ?_; conv => whnf) | (refine w100 ?_; conv => whnf) | (apply pcall; (focus (intro _ _ hk; first | exact w100 hk)); conv => whnf) | (refine And.intro ?_ ?_; (focus ((first | omega | decide | (simp (disch := omega) only [nm, wrapI] <;> omega) | (simp [strOf, nm] <;> omega) | exact Nat.le_of_ble_eq_true rfl | rfl); done)); conv => whnf) | (rw [vv]; conv => whnf) | (refine NilP.mk fun nb hnb => ?_; conv => whnf))
         all_goals (cases hi : intO w1 <;> simp only [hi, Option.isSome, isV, Option.some.injEq, forall_eq'] at hc hv <;> refine krA h ?_ ?_ <;> simp_all [actO, actN, actB, inB] <;> grind))
/-- What ReadAct answers. -/
def raO (t : Str) : Option Act := if t.length ≤ 65536 then actO (words t) else none
def raC (t : Str) : Int := if t.length ≤ 65536 then (if (actO (words t)).isSome then 0 else 3) else 2
theorem raA {t : Str} {Kr : C → List Ob → R} (h : Kr (.tuple [cAct ((raO t).getD (0, 0, [])), .d (.int .i64 (raC t))]) []) (h1 : ¬ t.length ≤ 65536) : Kr (.tuple [.agg [.d (.int .i64 0), .d (.int .i64 0), .d (.str [])], .d (.int .i64 2)]) [] := by
  rw [raO, raC, if_neg h1, if_neg h1] at h; exact h
theorem raB {t : Str} {Kr : C → List Ob → R} (h : Kr (.tuple [cAct ((raO t).getD (0, 0, [])), .d (.int .i64 (raC t))]) []) (h1 : t.length ≤ 65536) (h2 : actO (words t) = none) : Kr (.tuple [.agg [.d (.int .i64 0), .d (.int .i64 0), .d (.str [])], .d (.int .i64 3)]) [] := by
  rw [raO, raC, if_pos h1, if_pos h1, h2] at h; exact h
theorem raD {t : Str} {Kr : C → List Ob → R} {k i : Int} {s : Str} (h : Kr (.tuple [cAct ((raO t).getD (0, 0, [])), .d (.int .i64 (raC t))]) []) (h1 : t.length ≤ 65536) (h2 : actO (words t) = some (k, i, s)) : Kr (.tuple [.agg [.d (.int .i64 k), .d (.int .i64 i), .d (.str s)], .d (.int .i64 0)]) [] := by
  rw [raO, raC, if_pos h1, if_pos h1, h2] at h; exact h
theorem w22 {t : Str} {Kr Kp : C → List Ob → R} (h : Kr (.tuple [cAct ((raO t).getD (0, 0, [])), .d (.int .i64 (raC t))]) []) : Wp T Tryz.prog tt 22 [.d (.str t)] [] Kr Kp := by
  refine go (k := 22) (own := true) (cap := .deep) Tryz.func22 (by kernel_rfl) ?_
  (conv => whnf); repeat' (first | ((first | refine bdec ?_ ?_ | refine bnot ?_ ?_ | refine bsel_intro ?_ ?_ | skip) <;> intro hc <;> (try simp (disch := omega) only [nm, wrapI] at hc) <;> conv => whnf) | (refine .head _ rfl (by kernel_rfl) ?_; conv => whnf) | (refine And.intro ?_ ?_; (focus ((first | omega | decide | (simp (disch := omega) only [nm, wrapI] <;> omega) | (simp [strOf, nm] <;> omega) | exact Nat.le_of_ble_eq_true rfl | rfl); done)); conv => whnf) | (rw [vv]; conv => whnf) | (refine NilP.mk fun nb hnb => ?_; conv => whnf))
  · exact raA h (by omega)
  · refine w62 (by omega) (fun a ha => ?_)
    cases hO : actO (words t) with
    | none =>
      obtain ⟨k, i, s⟩ := a
      (conv => whnf); repeat' (first | ((first | refine bdec ?_ ?_ | refine bnot ?_ ?_ | refine bsel_intro ?_ ?_ | skip) <;> intro hc <;> (try simp (disch := omega) only [nm, wrapI] at hc) <;> conv => whnf) | (refine .head _ rfl (by kernel_rfl) ?_; conv => whnf) | (refine And.intro ?_ ?_; (focus ((first | omega | decide | (simp (disch := omega) only [nm, wrapI] <;> omega) | (simp [strOf, nm] <;> omega) | exact Nat.le_of_ble_eq_true rfl | rfl); done)); conv => whnf) | (rw [vv]; conv => whnf) | (refine NilP.mk fun nb hnb => ?_; conv => whnf))
      exact raB h (by omega) hO
    | some x =>
      obtain rfl := ha x hO
      obtain ⟨k, i, s⟩ := a
      (conv => whnf); repeat' (first | ((first | refine bdec ?_ ?_ | refine bnot ?_ ?_ | refine bsel_intro ?_ ?_ | skip) <;> intro hc <;> (try simp (disch := omega) only [nm, wrapI] at hc) <;> conv => whnf) | (refine .head _ rfl (by kernel_rfl) ?_; conv => whnf) | (refine And.intro ?_ ?_; (focus ((first | omega | decide | (simp (disch := omega) only [nm, wrapI] <;> omega) | (simp [strOf, nm] <;> omega) | exact Nat.le_of_ble_eq_true rfl | rfl); done)); conv => whnf) | (rw [vv]; conv => whnf) | (refine NilP.mk fun nb hnb => ?_; conv => whnf))
      exact raD h (by omega) hO
theorem w21 {t : Str} {Kr Kp : C → List Ob → R} (hM : HasMax T) (hE : HasErr T) (hP : HasPow T) (h : Kr (.tuple [cAct ((raO t).getD (0, 0, [])), .d (.int .i64 (raC t))]) []) : Wp T Tryz.prog tt 21 [.d (.str t)] [] Kr Kp := by
  refine go (k := 21) (own := true) (cap := .deep) Tryz.func21 (by kernel_rfl) ?_
  (conv => whnf); repeat' (first | ((first | refine bdec ?_ ?_ | refine bnot ?_ ?_ | refine bsel_intro ?_ ?_ | skip) <;> intro hc <;> (try simp (disch := omega) only [nm, wrapI] at hc) <;> conv => whnf) | (refine .head _ rfl (by kernel_rfl) ?_; conv => whnf) | (refine w46 ?_; conv => whnf) | (apply pcall; (focus (intro _ _ hk; first | exact w46 hk)); conv => whnf) | (refine And.intro ?_ ?_; (focus ((first | omega | decide | (simp (disch := omega) only [nm, wrapI] <;> omega) | (simp [strOf, nm] <;> omega) | exact Nat.le_of_ble_eq_true rfl | rfl); done)); conv => whnf) | (rw [vv]; conv => whnf) | (refine NilP.mk fun nb hnb => ?_; conv => whnf))
  · exact raA h (by omega)
  · (conv => whnf); repeat' (first | ((first | refine bdec ?_ ?_ | refine bnot ?_ ?_ | refine bsel_intro ?_ ?_ | skip) <;> intro hc <;> (try simp (disch := omega) only [nm, wrapI] at hc) <;> conv => whnf) | (refine .head _ rfl (by kernel_rfl) ?_; conv => whnf) | (refine w61 hM (by omega) ?_; conv => whnf) | (apply pcall; (focus (intro _ _ hk; first | exact w61 hM (by omega) hk)); conv => whnf) | (refine And.intro ?_ ?_; (focus ((first | omega | decide | (simp (disch := omega) only [nm, wrapI] <;> omega) | (simp [strOf, nm] <;> omega) | exact Nat.le_of_ble_eq_true rfl | rfl); done)); conv => whnf) | (rw [vv]; conv => whnf) | (refine NilP.mk fun nb hnb => ?_; conv => whnf))
    have hj : ∀ w0 r, words t = w0 :: r → (Lib.join r [32]).length ≤ 65536 := fun w0 r hr => by have := join_words hr; omega
    refine w60 hE hP (fun w hw => by have := words_mem hw; omega) hj (fun a ha => ?_)
    cases hO : actO (words t) with
    | none =>
      obtain ⟨k, i, s⟩ := a
      (conv => whnf); repeat' (first | ((first | refine bdec ?_ ?_ | refine bnot ?_ ?_ | refine bsel_intro ?_ ?_ | skip) <;> intro hc <;> (try simp (disch := omega) only [nm, wrapI] at hc) <;> conv => whnf) | (refine .head _ rfl (by kernel_rfl) ?_; conv => whnf) | (refine And.intro ?_ ?_; (focus ((first | omega | decide | (simp (disch := omega) only [nm, wrapI] <;> omega) | (simp [strOf, nm] <;> omega) | exact Nat.le_of_ble_eq_true rfl | rfl); done)); conv => whnf) | (rw [vv]; conv => whnf) | (refine NilP.mk fun nb hnb => ?_; conv => whnf))
      exact raB h (by omega) hO
    | some x =>
      obtain rfl := ha x hO
      obtain ⟨k, i, s⟩ := a
      (conv => whnf); repeat' (first | ((first | refine bdec ?_ ?_ | refine bnot ?_ ?_ | refine bsel_intro ?_ ?_ | skip) <;> intro hc <;> (try simp (disch := omega) only [nm, wrapI] at hc) <;> conv => whnf) | (refine .head _ rfl (by kernel_rfl) ?_; conv => whnf) | (refine And.intro ?_ ?_; (focus ((first | omega | decide | (simp (disch := omega) only [nm, wrapI] <;> omega) | (simp [strOf, nm] <;> omega) | exact Nat.le_of_ble_eq_true rfl | rfl); done)); conv => whnf) | (rw [vv]; conv => whnf) | (refine NilP.mk fun nb hnb => ?_; conv => whnf))
      exact raD h (by omega) hO
end Go.Proofs.SL
set_option linter.unusedVariables false
set_option linter.unusedSimpArgs false
set_option maxRecDepth 100000
set_option maxHeartbeats 8000000
namespace Go.Proofs.SL
open Go Go.Proofs Go.Proofs.EN Go.Proofs.VT
variable {T : Tabs}
end Go.Proofs.SL
set_option linter.unusedVariables false
set_option linter.unusedSimpArgs false
set_option maxRecDepth 100000
set_option maxHeartbeats 8000000
namespace Go.Proofs.SL
open Go Go.Proofs Go.Proofs.EN Go.Proofs.VT
variable {T : Tabs}
end Go.Proofs.SL
set_option linter.unusedVariables false
set_option linter.unusedSimpArgs false
set_option maxRecDepth 100000
set_option maxHeartbeats 8000000
namespace Go.Proofs.SL
open Go Go.Proofs Go.Proofs.EN Go.Proofs.VT
variable {T : Tabs}
end Go.Proofs.SL
set_option linter.unusedVariables false
set_option linter.unusedSimpArgs false
set_option maxRecDepth 100000
set_option maxHeartbeats 8000000
namespace Go.Proofs.SL
open Go Go.Proofs Go.Proofs.EN Go.Proofs.VT
variable {T : Tabs}
end Go.Proofs.SL
set_option linter.unusedVariables false
set_option linter.unusedSimpArgs false
set_option maxRecDepth 100000
set_option maxHeartbeats 8000000
namespace Go.Proofs.SL
open Go Go.Proofs Go.Proofs.EN Go.Proofs.VT
variable {T : Tabs}
end Go.Proofs.SL
set_option linter.unusedVariables false
set_option linter.unusedSimpArgs false
set_option maxRecDepth 100000
set_option maxHeartbeats 8000000
namespace Go.Proofs.SL
open Go Go.Proofs Go.Proofs.EN Go.Proofs.VT
variable {T : Tabs}
theorem w17 {ws : List Str} {Kr Kp : C → List Ob → R} (h : Kr (.d (.bool true)) []) : Wp T Tryz.prog tt 17 [.d (.list 9 (dStr ws)), .d (.list 9 (dStr ws))] [] Kr Kp := by
  refine go (k := 17) (own := true) (cap := .deep) Tryz.func17 (by kernel_rfl) ?_
  (conv => whnf); repeat' (first | ((first | refine bdec ?_ ?_ | refine bnot ?_ ?_ | refine bsel_intro ?_ ?_ | skip) <;> intro hc <;> (try simp (disch := omega) only [nm, dArgDefs_len, dFieldDefs_len, dTypeDefs_len, dSchemas_len, dArgDefs_0, dArgDefs_1, dFieldDefs_0, dFieldDefs_1, dFieldDefs_2, dFieldDefs_3, dFieldDefs_4, dTypeDefs_0, dTypeDefs_1, dSchemas_0, dToks_len, dToks_0, dToks_1, dToks_2, Nat.reduceAdd, wrapI] at hc) <;> conv => whnf) | (refine .head _ rfl (by kernel_rfl) ?_; conv => whnf) | (refine And.intro ?_ ?_; (focus ((first | omega | decide | (simp (disch := omega) only [nm, dArgDefs_len, dFieldDefs_len, dTypeDefs_len, dSchemas_len, dArgDefs_0, dArgDefs_1, dFieldDefs_0, dFieldDefs_1, dFieldDefs_2, dFieldDefs_3, dFieldDefs_4, dTypeDefs_0, dTypeDefs_1, dSchemas_0, dToks_len, dToks_0, dToks_1, dToks_2, Nat.reduceAdd, wrapI] <;> omega) | (simp [strOf, nm, dArgDefs_len, dFieldDefs_len, dTypeDefs_len, dSchemas_len, dArgDefs_0, dArgDefs_1, dFieldDefs_0, dFieldDefs_1, dFieldDefs_2, dFieldDefs_3, dFieldDefs_4, dTypeDefs_0, dTypeDefs_1, dSchemas_0, dToks_len, dToks_0, dToks_1, dToks_2, Nat.reduceAdd] <;> omega) | exact Nat.le_of_ble_eq_true rfl | rfl); done)); conv => whnf) | (rw [vv]; conv => whnf) | (refine NilP.mk fun nb hnb => ?_; conv => whnf))
  refine loopOf (fun i : Nat => ⟨[(0, .d (.list 9 (dStr ws))), (1, .d (.list 9 (dStr ws))), (5, .d (.int .i64 (i : Int)))], []⟩) (fun i => i ≤ ws.length) (fun i => ws.length - i) 0 rfl (by omega) ?_
  intro i I hi rec
  (conv => whnf); repeat' (first | ((first | refine bdec ?_ ?_ | refine bnot ?_ ?_ | refine bsel_intro ?_ ?_ | skip) <;> intro hc <;> (try simp (disch := omega) only [nm, dArgDefs_len, dFieldDefs_len, dTypeDefs_len, dSchemas_len, dArgDefs_0, dArgDefs_1, dFieldDefs_0, dFieldDefs_1, dFieldDefs_2, dFieldDefs_3, dFieldDefs_4, dTypeDefs_0, dTypeDefs_1, dSchemas_0, dToks_len, dToks_0, dToks_1, dToks_2, Nat.reduceAdd, wrapI] at hc) <;> conv => whnf) | (refine .head _ rfl (by kernel_rfl) ?_; conv => whnf) | (refine And.intro ?_ ?_; (focus ((first | omega | decide | (simp (disch := omega) only [nm, dArgDefs_len, dFieldDefs_len, dTypeDefs_len, dSchemas_len, dArgDefs_0, dArgDefs_1, dFieldDefs_0, dFieldDefs_1, dFieldDefs_2, dFieldDefs_3, dFieldDefs_4, dTypeDefs_0, dTypeDefs_1, dSchemas_0, dToks_len, dToks_0, dToks_1, dToks_2, Nat.reduceAdd, wrapI] <;> omega) | (simp [strOf, nm, dArgDefs_len, dFieldDefs_len, dTypeDefs_len, dSchemas_len, dArgDefs_0, dArgDefs_1, dFieldDefs_0, dFieldDefs_1, dFieldDefs_2, dFieldDefs_3, dFieldDefs_4, dTypeDefs_0, dTypeDefs_1, dSchemas_0, dToks_len, dToks_0, dToks_1, dToks_2, Nat.reduceAdd] <;> omega) | exact Nat.le_of_ble_eq_true rfl | rfl); done)); conv => whnf) | (rw [vv]; conv => whnf) | (refine NilP.mk fun nb hnb => ?_; conv => whnf))
  all_goals first
    | (refine eqI (rec (i + 1) (by omega) (by omega)) ?_; simp (disch := omega) only [wrapS]; done)
    | exact h
    | (exfalso; simp_all; done)
end Go.Proofs.SL
