/- Contracts of functions of this program, by the evaluator EN; part GJ. No conditions but those that each theorem states. -/
import Derived.Test.YtekcghhacpllaaaDoorGI
set_option linter.unusedVariables false
set_option linter.unusedSimpArgs false
set_option maxRecDepth 100000
set_option maxHeartbeats 8000000
namespace Go.Proofs.SL
open Go Go.Proofs Go.Proofs.EN Go.Proofs.VT
variable {T : Tabs}
/-! ### Acts read -/
abbrev Act := Int × Int × Str
def cAct (a : Act) : C := .agg [.d (.int .i64 a.1), .d (.int .i64 a.2.1), .d (.str a.2.2)]
def actB (a : Act) : Bool := inB a.1 1 4 && (inB a.2.1 0 1000000 && (decide (a.2.2.length ≤ 65536) && ((decide (a.1 = 1) || decide (a.2.2 = [])) && (inB a.1 2 3 || decide (a.2.1 = 0)))))
theorem w81 {k i : Int} {s : Str} {Kr Kp : C → List Ob → R} (h : Kr (.d (.bool (actB (k, i, s)))) []) : Wp T Tryd.prog tt 81 [.agg [.d (.int .i64 k), .d (.int .i64 i), .d (.str s)]] [] Kr Kp := by
  refine go (k := 81) (own := true) (cap := .deep) Tryd.func81 (by kernel_rfl) ?_
  (conv => whnf); repeat' (first | ((first | refine bdec ?_ ?_ | refine bnot ?_ ?_ | refine bsel_intro ?_ ?_ | skip) <;> intro hc <;> (try simp (disch := omega) only [nm, wrapI] at hc) <;> conv => whnf) | (refine .head _ rfl (by kernel_rfl) ?_; conv => whnf) | (refine w49 ?_; conv => whnf) | (apply pcall; (focus (intro _ _ hk; first | exact w49 hk)); conv => whnf) | (refine And.intro ?_ ?_; (focus ((first | omega | decide | (simp (disch := omega) only [nm, wrapI] <;> omega) | (simp [strOf, nm] <;> omega) | rfl); done)); conv => whnf) | (rw [vv]; conv => whnf))
  all_goals (refine krB h ?_; simp only [actB, inB] at *; grind)
def rightB (a : Act) : Bool := if a.1 = 1 then decide (a.2.1 = 0) else if a.1 = 2 ∨ a.1 = 3 then inB a.2.1 0 1000000 && decide (a.2.2 = []) else if a.1 = 4 then decide (a.2.1 = 0) && decide (a.2.2 = []) else false
theorem w86 {k i : Int} {s : Str} {Kr Kp : C → List Ob → R} (h : Kr (.d (.bool (rightB (k, i, s)))) []) : Wp T Tryd.prog tt 86 [.agg [.d (.int .i64 k), .d (.int .i64 i), .d (.str s)]] [] Kr Kp := by
  refine go (k := 86) (own := true) (cap := .deep) Tryd.func86 (by kernel_rfl) ?_
  (conv => whnf); repeat' (first | ((first | refine bdec ?_ ?_ | refine bnot ?_ ?_ | refine bsel_intro ?_ ?_ | skip) <;> intro hc <;> (try simp (disch := omega) only [nm, wrapI] at hc) <;> conv => whnf) | (refine .head _ rfl (by kernel_rfl) ?_; conv => whnf) | (refine w54 ?_; conv => whnf) | (apply pcall; (focus (intro _ _ hk; first | exact w54 hk)); conv => whnf) | (refine And.intro ?_ ?_; (focus ((first | omega | decide | (simp (disch := omega) only [nm, wrapI] <;> omega) | (simp [strOf, nm] <;> omega) | rfl); done)); conv => whnf) | (rw [vv]; conv => whnf))
  all_goals (refine krB h ?_; simp only [rightB, inB] at *; grind)
theorem w23 {k i k' i' : Int} {s s' : Str} {Kr Kp : C → List Ob → R} (h : Kr (.d (.bool (decide (((k, i, s) : Act) = (k', i', s'))))) []) : Wp T Tryd.prog tt 23 [.agg [.d (.int .i64 k), .d (.int .i64 i), .d (.str s)], .agg [.d (.int .i64 k'), .d (.int .i64 i'), .d (.str s')]] [] Kr Kp := by
  refine go (k := 23) (own := true) (cap := .deep) Tryd.func23 (by kernel_rfl) ?_
  (conv => whnf); repeat' (first | ((first | refine bdec ?_ ?_ | refine bnot ?_ ?_ | refine bsel_intro ?_ ?_ | skip) <;> intro hc <;> (try simp (disch := omega) only [nm, wrapI] at hc) <;> conv => whnf) | (refine .head _ rfl (by kernel_rfl) ?_; conv => whnf) | (refine And.intro ?_ ?_; (focus ((first | omega | decide | (simp (disch := omega) only [nm, wrapI] <;> omega) | (simp [strOf, nm] <;> omega) | rfl); done)); conv => whnf) | (rw [vv]; conv => whnf))
  all_goals (refine krB h ?_; simp_all)
theorem w84 {t : Str} {Kr Kp : C → List Ob → R} (h : Kr (.d (.bool (decide (65536 < t.length)))) []) : Wp T Tryd.prog tt 84 [.d (.str t)] [] Kr Kp := by
  refine go (k := 84) (own := true) (cap := .deep) Tryd.func84 (by kernel_rfl) ?_
  (conv => whnf); repeat' (first | ((first | refine bdec ?_ ?_ | refine bnot ?_ ?_ | refine bsel_intro ?_ ?_ | skip) <;> intro hc <;> (try simp (disch := omega) only [nm, wrapI] at hc) <;> conv => whnf) | (refine .head _ rfl (by kernel_rfl) ?_; conv => whnf) | (refine And.intro ?_ ?_; (focus ((first | omega | decide | (simp (disch := omega) only [nm, wrapI] <;> omega) | (simp [strOf, nm] <;> omega) | rfl); done)); conv => whnf) | (rw [vv]; conv => whnf))
  refine krB h ?_; rw [decide_eq_decide]; omega
theorem w111 {t : Str} {Kr Kp : C → List Ob → R} (h : Kr (.d (.int .i64 (if 65536 < t.length then 0 else -1))) []) : Wp T Tryd.prog tt 111 [.d (.list 9 (dStr [t])), .func 84 []] [] Kr Kp := by
  refine go (k := 111) (own := true) (cap := .deep) Tryd.func111 (by kernel_rfl) ?_
  (conv => whnf); repeat' (first | ((first | refine bdec ?_ ?_ | refine bnot ?_ ?_ | refine bsel_intro ?_ ?_ | skip) <;> intro hc <;> (try simp (disch := omega) only [nm, wrapI] at hc) <;> conv => whnf) | (refine .head _ rfl (by kernel_rfl) ?_; conv => whnf) | (refine And.intro ?_ ?_; (focus ((first | omega | decide | (simp (disch := omega) only [nm, wrapI] <;> omega) | (simp [strOf, nm] <;> omega) | rfl); done)); conv => whnf) | (rw [vv]; conv => whnf))
  refine loopOf (fun i : Nat => ⟨[(0, .d (.list 9 (dStr [t]))), (1, .func 84 []), (7, .d (.int .i64 ((dStr [t]).length : Int))), (8, .d (.int .i64 (i : Int)))], []⟩) (fun i => i ≤ 1 ∧ (i = 1 → ¬ 65536 < t.length)) (fun i => 1 - i) 0 rfl ⟨by omega, by omega⟩ ?_
  intro i I hi rec
  rcases Nat.eq_zero_or_pos i with rfl | h0
  · (conv => whnf); repeat' (first | ((first | refine bdec ?_ ?_ | refine bnot ?_ ?_ | refine bsel_intro ?_ ?_ | skip) <;> intro hc <;> (try simp (disch := omega) only [nm, wrapI] at hc) <;> conv => whnf) | (refine .head _ rfl (by kernel_rfl) ?_; conv => whnf) | (refine w84 ?_; conv => whnf) | (apply pcall; (focus (intro _ _ hk; first | exact w84 hk)); conv => whnf) | (refine And.intro ?_ ?_; (focus ((first | omega | decide | (simp (disch := omega) only [nm, wrapI] <;> omega) | (simp [strOf, nm] <;> omega) | rfl); done)); conv => whnf) | (rw [vv]; conv => whnf))
    · have hc : 65536 < t.length := hc
      rw [if_pos hc] at h; exact h
    · refine eqI (rec 1 ⟨by omega, fun _ => hc⟩ (by omega)) ?_
      simp (disch := omega) only [wrapI]; rfl
  · obtain rfl : i = 1 := by omega
    (conv => whnf); repeat' (first | ((first | refine bdec ?_ ?_ | refine bnot ?_ ?_ | refine bsel_intro ?_ ?_ | skip) <;> intro hc <;> (try simp (disch := omega) only [nm, wrapI] at hc) <;> conv => whnf) | (refine .head _ rfl (by kernel_rfl) ?_; conv => whnf) | (refine And.intro ?_ ?_; (focus ((first | omega | decide | (simp (disch := omega) only [nm, wrapI] <;> omega) | (simp [strOf, nm] <;> omega) | rfl); done)); conv => whnf) | (rw [vv]; conv => whnf))
    rw [if_neg (hi.2 rfl)] at h; exact h
theorem w83 {t : Str} {Kr Kp : C → List Ob → R} (h : Kr (.d (.bool (decide (65536 < t.length)))) []) : Wp T Tryd.prog tt 83 [.d (.list 9 (dStr [t])), .func 84 []] [] Kr Kp := by
  refine go (k := 83) (own := true) (cap := .deep) Tryd.func83 (by kernel_rfl) ?_
  (conv => whnf); repeat' (first | ((first | refine bdec ?_ ?_ | refine bnot ?_ ?_ | refine bsel_intro ?_ ?_ | skip) <;> intro hc <;> (try simp (disch := omega) only [nm, wrapI] at hc) <;> conv => whnf) | (refine .head _ rfl (by kernel_rfl) ?_; conv => whnf) | (refine w111 ?_; conv => whnf) | (apply pcall; (focus (intro _ _ hk; first | exact w111 hk)); conv => whnf) | (refine And.intro ?_ ?_; (focus ((first | omega | decide | (simp (disch := omega) only [nm, wrapI] <;> omega) | (simp [strOf, nm] <;> omega) | rfl); done)); conv => whnf) | (rw [vv]; conv => whnf))
  refine krB h ?_; split <;> simp_all
theorem w45 {t : Str} {Kr Kp : C → List Ob → R} (h : Kr (.d (.bool (decide (t.length ≤ 65536)))) []) : Wp T Tryd.prog tt 45 [.d (.list 9 (dStr [t]))] [] Kr Kp := by
  refine go (k := 45) (own := true) (cap := .deep) Tryd.func45 (by kernel_rfl) ?_
  (conv => whnf); repeat' (first | ((first | refine bdec ?_ ?_ | refine bnot ?_ ?_ | refine bsel_intro ?_ ?_ | skip) <;> intro hc <;> (try simp (disch := omega) only [nm, wrapI] at hc) <;> conv => whnf) | (refine .head _ rfl (by kernel_rfl) ?_; conv => whnf) | (refine w83 ?_; conv => whnf) | (apply pcall; (focus (intro _ _ hk; first | exact w83 hk)); conv => whnf) | (refine And.intro ?_ ?_; (focus ((first | omega | decide | (simp (disch := omega) only [nm, wrapI] <;> omega) | (simp [strOf, nm] <;> omega) | rfl); done)); conv => whnf) | (rw [vv]; conv => whnf))
  refine krB h ?_
  rw [show decide (65536 < t.length) = !decide (t.length ≤ 65536) by rw [← decide_not, decide_eq_decide]; omega]; simp
/-! ### What an act's text says -/
abbrev tAsk : Str := [97, 115, 107]
abbrev tTick : Str := [116, 105, 99, 107]
abbrev tStep : Str := [115, 116, 101, 112]
abbrev tCancel : Str := [99, 97, 110, 99, 101, 108]
def actN (k : Int) (w : Str) : Option Act := match intO w with
  | some n => if 0 ≤ n ∧ n ≤ 1000000 then some (k, n, []) else none
  | none => none
def actO : List Str → Option Act
  | [] => none
  | w0 :: r => if w0 = tAsk then some (1, 0, Lib.join r [32]) else match r with
    | [] => if w0 = tTick then some (4, 0, []) else none
    | [w1] => if w0 = tStep then actN 2 w1 else if w0 = tCancel then actN 3 w1 else none
    | _ => none
def isA (o : Option Act) (a : Act) : Prop := ∀ x, o = some x → a = x
theorem actN_in {k v : Int} {w : Str} (hv : isV (intO w) v) (hs : (intO w).isSome = true) : actN k w = if 0 ≤ v ∧ v ≤ 1000000 then some (k, v, []) else none := by
  cases h : intO w with
  | none => rw [h] at hs; cases hs
  | some n => rw [actN, h, hv n h]
theorem actN_no {k : Int} {w : Str} (hs : (intO w).isSome = false) : actN k w = none := by
  cases h : intO w with
  | none => rw [actN, h]
  | some n => rw [h] at hs; cases hs
theorem krA {Kr : C → List Ob → R} {o : Option Act} {k i : Int} {s : Str} {b : Bool} (h : ∀ a, isA o a → Kr (.tuple [cAct a, .d (.bool o.isSome)]) []) (e : o.isSome = b) (ha : b = true → o = some (k, i, s)) : Kr (.tuple [.agg [.d (.int .i64 k), .d (.int .i64 i), .d (.str s)], .d (.bool b)]) [] := by
  subst e
  exact h (k, i, s) fun x hx => by rw [ha (by rw [hx]; rfl)] at hx; exact Option.some.inj hx
theorem w46 {ws : List Str} {Kr Kp : C → List Ob → R} (hE : HasErr T) (hP : HasPow T) (hw : ∀ w ∈ ws, w.length ≤ 65536) (hj : ∀ w0 r, ws = w0 :: r → (Lib.join r [32]).length ≤ 65536) (h : ∀ a, isA (actO ws) a → Kr (.tuple [cAct a, .d (.bool (actO ws).isSome)]) []) : Wp T Tryd.prog tt 46 [.d (.list 9 (dStr ws))] [] Kr Kp := by
  refine go (k := 46) (own := true) (cap := .deep) Tryd.func46 (by kernel_rfl) ?_
  rcases ws with _ | ⟨w0, r⟩
  · (conv => whnf); repeat' (first | ((first | refine bdec ?_ ?_ | refine bnot ?_ ?_ | refine bsel_intro ?_ ?_ | skip) <;> intro hc <;> (try simp (disch := omega) only [nm, Int.natCast_zero, Int.lt_irrefl, wrapI] at hc) <;> conv => whnf) | (refine .head _ rfl (by kernel_rfl) ?_; conv => whnf) | (refine And.intro ?_ ?_; (focus ((first | omega | decide | (simp (disch := omega) only [nm, Int.natCast_zero, Int.lt_irrefl, wrapI] <;> omega) | (simp [strOf, nm, Int.natCast_zero, Int.lt_irrefl] <;> omega) | rfl); done)); conv => whnf) | (rw [vv]; conv => whnf))
    exact krA h rfl (fun h => by cases h)
  by_cases ha : w0 = [97, 115, 107]
  · have hb := hj w0 r rfl
    (conv => whnf); repeat' (first | ((first | refine bdec ?_ ?_ | refine bnot ?_ ?_ | refine bsel_intro ?_ ?_ | skip) <;> intro hc <;> (try simp (disch := omega) only [nm, List.getElem?_cons_zero, Option.getD_some, Int.reduceToNat, ha, eq_self, wrapI] at hc) <;> conv => whnf) | (refine .head _ rfl (by kernel_rfl) ?_; conv => whnf) | (refine And.intro ?_ ?_; (focus ((first | omega | decide | (simp (disch := omega) only [nm, List.getElem?_cons_zero, Option.getD_some, Int.reduceToNat, ha, eq_self, wrapI] <;> omega) | (simp [strOf, nm, List.getElem?_cons_zero, Option.getD_some, Int.reduceToNat, ha, eq_self] <;> omega) | rfl); done)); conv => whnf) | (rw [vv]; conv => whnf))
    all_goals first | (exfalso; omega) | skip
    refine wpArgs (xs' := [.d (.list 9 (dStr r)), .d (.str [32])]) (by simp [dStr, List.take_of_length_le]) (w39 (by omega) ?_)
    (conv => whnf); repeat' (first | ((first | refine bdec ?_ ?_ | refine bnot ?_ ?_ | refine bsel_intro ?_ ?_ | skip) <;> intro hc <;> (try simp (disch := omega) only [nm, wrapI] at hc) <;> conv => whnf) | (refine .head _ rfl (by kernel_rfl) ?_; conv => whnf) | (refine And.intro ?_ ?_; (focus ((first | omega | decide | (simp (disch := omega) only [nm, wrapI] <;> omega) | (simp [strOf, nm] <;> omega) | rfl); done)); conv => whnf) | (rw [vv]; conv => whnf))
    exact krA h (by simp [actO, ha]) (fun _ => by simp [actO, ha])
  have hw1 : ∀ w1 ∈ r, w1.length ≤ 16777216 := fun w hm => by have := hw w (List.mem_cons_of_mem _ hm); omega
  rcases r with _ | ⟨w1, _ | ⟨w2, r⟩⟩
  all_goals
    (conv => whnf); repeat' (first | ((first | refine bdec ?_ ?_ | refine bnot ?_ ?_ | refine bsel_intro ?_ ?_ | skip) <;> intro hc <;> (try simp (disch := omega) only [nm, List.getElem?_cons_zero, List.getElem?_cons_succ, Option.getD_some, Int.reduceToNat, ha, wrapI] at hc) <;> conv => whnf) | (refine .head _ rfl (by kernel_rfl) ?_; conv => whnf) | (refine And.intro ?_ ?_; (focus ((first | omega | decide | (simp (disch := omega) only [nm, List.getElem?_cons_zero, List.getElem?_cons_succ, Option.getD_some, Int.reduceToNat, ha, wrapI] <;> omega) | (simp [strOf, nm, List.getElem?_cons_zero, List.getElem?_cons_succ, Option.getD_some, Int.reduceToNat, ha] <;> omega) | rfl); done)); conv => whnf) | (rw [vv]; conv => whnf))
    all_goals first | (exfalso; omega) | (exact absurd ‹w0 = _› ‹¬ w0 = _›) | skip
    all_goals first
      | (refine krA h ?_ ?_ <;> simp_all [actO]; done)
      | (refine wpArgs (xs' := [.d (.str w1)]) rfl (w85 hE hP (hw1 w1 (by simp)) ?_); conv => whnf)
      | skip
    all_goals (conv => whnf); repeat' (first | ((first | refine bdec ?_ ?_ | refine bnot ?_ ?_ | refine bsel_intro ?_ ?_ | skip) <;> intro hc <;> (try simp (disch := omega) only [nm, wrapI] at hc) <;> conv => whnf) | (refine anyAt 46 (by kernel_rfl) (by kernel_rfl) ?_; conv => whnf) | (refine PAnd.mk ?_ ?_ <;> conv => whnf) | exact PTrue.mk | (refine w86 ?_; conv => whnf) | (apply pcall; (focus (intro _ _ hk; first | exact w86 hk)); conv => whnf) | (refine And.intro ?_ ?_; (focus ((first | omega | decide | (simp (disch := omega) only [nm, wrapI] <;> omega) | (simp [strOf, nm] <;> omega) | rfl); done)); conv => whnf) | (rw [vv]; conv => whnf))
    all_goals first | (exact absurd ‹w0 = _› ‹¬ w0 = _›) | skip
    all_goals (refine krA h ?_ ?_ <;> cases hi : intO w1 <;> simp_all [actO, actN, rightB, inB] <;> grind)
theorem lens_cons (x : Str) (r : List Str) : Lib.lens (x :: r) = x.length + Lib.lens r := by simp [Lib.lens]
theorem lens_filter (p : Str → Bool) : ∀ l : List Str, Lib.lens (l.filter p) + (l.filter p).length ≤ Lib.lens l + l.length
  | [] => by simp
  | x :: l => by
    have := lens_filter p l
    by_cases hp : p x = true
    · rw [List.filter_cons_of_pos hp, lens_cons, lens_cons]; simp only [List.length_cons]; omega
    · rw [List.filter_cons_of_neg hp, lens_cons]; simp only [List.length_cons]; omega
theorem words_tight (t : Str) : Lib.lens (words t) + (words t).length ≤ t.length + 1 := by
  have h1 := lens_filter (fun w => !decide (w = [])) (cutGo 32 [] t)
  have h2 := cutGo_lens 32 t []
  rw [words, words_cut]
  simp only [List.length_nil, Nat.zero_add] at h2
  exact Nat.le_trans h1 (Nat.le_of_eq h2)
theorem join_words {t w0 : Str} {r : List Str} (h : words t = w0 :: r) : (Lib.join r [32]).length ≤ t.length := by
  have h1 := words_tight t
  rw [h, lens_cons] at h1
  simp only [List.length_cons] at h1
  cases r with
  | nil => simp [Lib.join_nil]
  | cons x r =>
    rw [Lib.join_length]
    simp only [List.length_cons, List.length_nil] at h1 ⊢
    omega
theorem w44 {t : Str} {Kr Kp : C → List Ob → R} (ht : t.length ≤ 65536) (h : ∀ a, isA (actO (words t)) a → Kr (.tuple [cAct a, .d (.bool (actO (words t)).isSome)]) []) : Wp T Tryd.prog tt 44 [.d (.str t)] [] Kr Kp := by
  refine go (k := 44) (own := true) (cap := .deep) Tryd.func44 (by kernel_rfl) ?_
  conv => whnf
  refine w79 (by omega) ?_
  have hj : ∀ w0 r, words t = w0 :: r → (Lib.join r [32]).length ≤ 65536 := fun w0 r hr => by have := join_words hr; omega
  generalize words t = ws at h hj ⊢
  rcases ws with _ | ⟨w0, r⟩
  · (conv => whnf); repeat' (first | ((first | refine bdec ?_ ?_ | refine bnot ?_ ?_ | refine bsel_intro ?_ ?_ | skip) <;> intro hc <;> (try simp (disch := omega) only [nm, Int.natCast_zero, Int.lt_irrefl, wrapI] at hc) <;> conv => whnf) | (refine .head _ rfl (by kernel_rfl) ?_; conv => whnf) | (refine And.intro ?_ ?_; (focus ((first | omega | decide | (simp (disch := omega) only [nm, Int.natCast_zero, Int.lt_irrefl, wrapI] <;> omega) | (simp [strOf, nm, Int.natCast_zero, Int.lt_irrefl] <;> omega) | rfl); done)); conv => whnf) | (rw [vv]; conv => whnf))
    exact krA h rfl (fun h => by cases h)
  by_cases ha : w0 = [97, 115, 107]
  · have hb := hj w0 r rfl
    (conv => whnf); repeat' (first | ((first | refine bdec ?_ ?_ | refine bnot ?_ ?_ | refine bsel_intro ?_ ?_ | skip) <;> intro hc <;> (try simp (disch := omega) only [nm, List.getElem?_cons_zero, Option.getD_some, Int.reduceToNat, ha, eq_self, wrapI] at hc) <;> conv => whnf) | (refine anyAt 44 (by kernel_rfl) (by kernel_rfl) ?_; conv => whnf) | (refine PAnd.mk ?_ ?_ <;> conv => whnf) | exact PTrue.mk | (refine w81 ?_; conv => whnf) | (apply pcall; (focus (intro _ _ hk; first | exact w81 hk)); conv => whnf) | (refine And.intro ?_ ?_; (focus ((first | omega | decide | (simp (disch := omega) only [nm, List.getElem?_cons_zero, Option.getD_some, Int.reduceToNat, ha, eq_self, wrapI] <;> omega) | (simp [strOf, nm, List.getElem?_cons_zero, Option.getD_some, Int.reduceToNat, ha, eq_self] <;> omega) | rfl); done)); conv => whnf) | (rw [vv]; conv => whnf))
    all_goals first | (exfalso; omega) | skip
    refine wpArgs (xs' := [.d (.list 9 (dStr r)), .d (.str [32])]) (by simp [dStr, List.take_of_length_le]) (w80 (by omega) ?_)
    (conv => whnf); repeat' (first | ((first | refine bdec ?_ ?_ | refine bnot ?_ ?_ | refine bsel_intro ?_ ?_ | skip) <;> intro hc <;> (try simp (disch := omega) only [nm, wrapI] at hc) <;> conv => whnf) | (refine anyAt 44 (by kernel_rfl) (by kernel_rfl) ?_; conv => whnf) | (refine PAnd.mk ?_ ?_ <;> conv => whnf) | exact PTrue.mk | (refine w81 ?_; conv => whnf) | (apply pcall; (focus (intro _ _ hk; first | exact w81 hk)); conv => whnf) | (refine And.intro ?_ ?_; (focus ((first | omega | decide | (simp (disch := omega) only [nm, wrapI] <;> omega) | (simp [strOf, nm] <;> omega) | rfl); done)); conv => whnf) | (rw [vv]; conv => whnf))
    all_goals (have e : actB (1, 0, Lib.join r [32]) = true := by simp [actB, inB, hb])
    all_goals (refine krA h ?_ ?_ <;> simp [actO, ha, e])
  rcases r with _ | ⟨w1, _ | ⟨w2, r⟩⟩
  all_goals
    (conv => whnf); repeat' (first | ((first | refine bdec ?_ ?_ | refine bnot ?_ ?_ | refine bsel_intro ?_ ?_ | skip) <;> intro hc <;> (try simp (disch := omega) only [nm, List.getElem?_cons_zero, List.getElem?_cons_succ, Option.getD_some, Int.reduceToNat, ha, wrapI] at hc) <;> conv => whnf) | (refine anyAt 44 (by kernel_rfl) (by kernel_rfl) ?_; conv => whnf) | (refine PAnd.mk ?_ ?_ <;> conv => whnf) | exact PTrue.mk | (refine w81 ?_; conv => whnf) | (apply pcall; (focus (intro _ _ hk; first | exact w81 hk)); conv => whnf) | (refine And.intro ?_ ?_; (focus ((first | omega | decide | (simp (disch := omega) only [nm, List.getElem?_cons_zero, List.getElem?_cons_succ, Option.getD_some, Int.reduceToNat, ha, wrapI] <;> omega) | (simp [strOf, nm, List.getElem?_cons_zero, List.getElem?_cons_succ, Option.getD_some, Int.reduceToNat, ha] <;> omega) | rfl); done)); conv => whnf) | (rw [vv]; conv => whnf))
    all_goals first | (exfalso; omega) | (exact absurd ‹w0 = _› ‹¬ w0 = _›) | skip
    all_goals first
      | (refine krA h ?_ ?_ <;> simp_all [actO] <;> omega)
      | (refine wpArgs (xs' := [.d (.str w1)]) rfl (w82 (fun v hv => ?_)); (conv => whnf); repeat' (first | ((first | refine bdec ?_ ?_ | refine bnot ?_ ?_ | refine bsel_intro ?_ ?_ | skip) <;> intro hc <;> (try simp (disch := omega) only [nm, wrapI] at hc) <;> conv => whnf) | (refine anyAt 44 (by kernel_rfl) (by kernel_rfl) ?_; conv => whnf) | (refine PAnd.mk ?_ ?_ <;> conv => whnf) | exact PTrue.mk | (refine w81 ?_; conv => whnf) | (apply pcall; (focus (intro _ _ hk; first | exact w81 hk)); conv => whnf) | (refine And.intro ?_ ?_; (focus ((first | omega | decide | (simp (disch := omega) only [nm, wrapI] <;> omega) | (simp [strOf, nm] <;> omega) | rfl); done)); conv => whnf) | (rw [vv]; conv => whnf))
         all_goals (cases hi : intO w1 <;> simp only [hi, Option.isSome, isV, Option.some.injEq, forall_eq'] at hc hv <;> refine krA h ?_ ?_ <;> simp_all [actO, actN, actB, inB] <;> grind))
/-- What ReadAct answers. -/
def raO (t : Str) : Option Act := if t.length ≤ 65536 then actO (words t) else none
def raC (t : Str) : Int := if t.length ≤ 65536 then (if (actO (words t)).isSome then 0 else 3) else 2
theorem raA {t : Str} {Kr : C → List Ob → R} (h : Kr (.tuple [cAct ((raO t).getD (0, 0, [])), .d (.int .i64 (raC t))]) []) (h1 : ¬ t.length ≤ 65536) : Kr (.tuple [.agg [.d (.int .i64 0), .d (.int .i64 0), .d (.str [])], .d (.int .i64 2)]) [] := by
  rw [raO, raC, if_neg h1, if_neg h1] at h; exact h
theorem raB {t : Str} {Kr : C → List Ob → R} (h : Kr (.tuple [cAct ((raO t).getD (0, 0, [])), .d (.int .i64 (raC t))]) []) (h1 : t.length ≤ 65536) (h2 : actO (words t) = none) : Kr (.tuple [.agg [.d (.int .i64 0), .d (.int .i64 0), .d (.str [])], .d (.int .i64 3)]) [] := by
  rw [raO, raC, if_pos h1, if_pos h1, h2] at h; exact h
theorem raD {t : Str} {Kr : C → List Ob → R} {k i : Int} {s : Str} (h : Kr (.tuple [cAct ((raO t).getD (0, 0, [])), .d (.int .i64 (raC t))]) []) (h1 : t.length ≤ 65536) (h2 : actO (words t) = some (k, i, s)) : Kr (.tuple [.agg [.d (.int .i64 k), .d (.int .i64 i), .d (.str s)], .d (.int .i64 0)]) [] := by
  rw [raO, raC, if_pos h1, if_pos h1, h2] at h; exact h
theorem w21 {t : Str} {Kr Kp : C → List Ob → R} (h : Kr (.tuple [cAct ((raO t).getD (0, 0, [])), .d (.int .i64 (raC t))]) []) : Wp T Tryd.prog tt 21 [.d (.str t)] [] Kr Kp := by
  refine go (k := 21) (own := true) (cap := .deep) Tryd.func21 (by kernel_rfl) ?_
  (conv => whnf); repeat' (first | ((first | refine bdec ?_ ?_ | refine bnot ?_ ?_ | refine bsel_intro ?_ ?_ | skip) <;> intro hc <;> (try simp (disch := omega) only [nm, wrapI] at hc) <;> conv => whnf) | (refine .head _ rfl (by kernel_rfl) ?_; conv => whnf) | (refine And.intro ?_ ?_; (focus ((first | omega | decide | (simp (disch := omega) only [nm, wrapI] <;> omega) | (simp [strOf, nm] <;> omega) | rfl); done)); conv => whnf) | (rw [vv]; conv => whnf))
  · exact raA h (by omega)
  · refine w44 (by omega) (fun a ha => ?_)
    cases hO : actO (words t) with
    | none =>
      obtain ⟨k, i, s⟩ := a
      (conv => whnf); repeat' (first | ((first | refine bdec ?_ ?_ | refine bnot ?_ ?_ | refine bsel_intro ?_ ?_ | skip) <;> intro hc <;> (try simp (disch := omega) only [nm, wrapI] at hc) <;> conv => whnf) | (refine .head _ rfl (by kernel_rfl) ?_; conv => whnf) | (refine And.intro ?_ ?_; (focus ((first | omega | decide | (simp (disch := omega) only [nm, wrapI] <;> omega) | (simp [strOf, nm] <;> omega) | rfl); done)); conv => whnf) | (rw [vv]; conv => whnf))
      exact raB h (by omega) hO
    | some x =>
      obtain rfl := ha x hO
      obtain ⟨k, i, s⟩ := a
      (conv => whnf); repeat' (first | ((first | refine bdec ?_ ?_ | refine bnot ?_ ?_ | refine bsel_intro ?_ ?_ | skip) <;> intro hc <;> (try simp (disch := omega) only [nm, wrapI] at hc) <;> conv => whnf) | (refine .head _ rfl (by kernel_rfl) ?_; conv => whnf) | (refine And.intro ?_ ?_; (focus ((first | omega | decide | (simp (disch := omega) only [nm, wrapI] <;> omega) | (simp [strOf, nm] <;> omega) | rfl); done)); conv => whnf) | (rw [vv]; conv => whnf))
      exact raD h (by omega) hO
theorem w22 {t : Str} {Kr Kp : C → List Ob → R} (hM : HasMax T) (hE : HasErr T) (hP : HasPow T) (h : Kr (.tuple [cAct ((raO t).getD (0, 0, [])), .d (.int .i64 (raC t))]) []) : Wp T Tryd.prog tt 22 [.d (.str t)] [] Kr Kp := by
  refine go (k := 22) (own := true) (cap := .deep) Tryd.func22 (by kernel_rfl) ?_
  (conv => whnf); repeat' (first | ((first | refine bdec ?_ ?_ | refine bnot ?_ ?_ | refine bsel_intro ?_ ?_ | skip) <;> intro hc <;> (try simp (disch := omega) only [nm, wrapI] at hc) <;> conv => whnf) | (refine .head _ rfl (by kernel_rfl) ?_; conv => whnf) | (refine w45 ?_; conv => whnf) | (apply pcall; (focus (intro _ _ hk; first | exact w45 hk)); conv => whnf) | (refine And.intro ?_ ?_; (focus ((first | omega | decide | (simp (disch := omega) only [nm, wrapI] <;> omega) | (simp [strOf, nm] <;> omega) | rfl); done)); conv => whnf) | (rw [vv]; conv => whnf))
  · exact raA h (by omega)
  · (conv => whnf); repeat' (first | ((first | refine bdec ?_ ?_ | refine bnot ?_ ?_ | refine bsel_intro ?_ ?_ | skip) <;> intro hc <;> (try simp (disch := omega) only [nm, wrapI] at hc) <;> conv => whnf) | (refine .head _ rfl (by kernel_rfl) ?_; conv => whnf) | (refine w47 hM (by omega) ?_; conv => whnf) | (apply pcall; (focus (intro _ _ hk; first | exact w47 hM (by omega) hk)); conv => whnf) | (refine And.intro ?_ ?_; (focus ((first | omega | decide | (simp (disch := omega) only [nm, wrapI] <;> omega) | (simp [strOf, nm] <;> omega) | rfl); done)); conv => whnf) | (rw [vv]; conv => whnf))
    have hj : ∀ w0 r, words t = w0 :: r → (Lib.join r [32]).length ≤ 65536 := fun w0 r hr => by have := join_words hr; omega
    refine w46 hE hP (fun w hw => by have := words_mem hw; omega) hj (fun a ha => ?_)
    cases hO : actO (words t) with
    | none =>
      obtain ⟨k, i, s⟩ := a
      (conv => whnf); repeat' (first | ((first | refine bdec ?_ ?_ | refine bnot ?_ ?_ | refine bsel_intro ?_ ?_ | skip) <;> intro hc <;> (try simp (disch := omega) only [nm, wrapI] at hc) <;> conv => whnf) | (refine .head _ rfl (by kernel_rfl) ?_; conv => whnf) | (refine And.intro ?_ ?_; (focus ((first | omega | decide | (simp (disch := omega) only [nm, wrapI] <;> omega) | (simp [strOf, nm] <;> omega) | rfl); done)); conv => whnf) | (rw [vv]; conv => whnf))
      exact raB h (by omega) hO
    | some x =>
      obtain rfl := ha x hO
      obtain ⟨k, i, s⟩ := a
      (conv => whnf); repeat' (first | ((first | refine bdec ?_ ?_ | refine bnot ?_ ?_ | refine bsel_intro ?_ ?_ | skip) <;> intro hc <;> (try simp (disch := omega) only [nm, wrapI] at hc) <;> conv => whnf) | (refine .head _ rfl (by kernel_rfl) ?_; conv => whnf) | (refine And.intro ?_ ?_; (focus ((first | omega | decide | (simp (disch := omega) only [nm, wrapI] <;> omega) | (simp [strOf, nm] <;> omega) | rfl); done)); conv => whnf) | (rw [vv]; conv => whnf))
      exact raD h (by omega) hO
theorem w5 {t : Str} {Kr Kp : C → List Ob → R} (hM : HasMax T) (hE : HasErr T) (hP : HasPow T) (h : Kr (.d (.bool true)) []) : Wp T Tryd.prog tt 5 [.d (.str t)] [] Kr Kp := by
  refine go (k := 5) (own := true) (cap := .deep) Tryd.func5 (by kernel_rfl) ?_
  (conv => whnf); repeat' (first | ((first | refine bdec ?_ ?_ | refine bnot ?_ ?_ | refine bsel_intro ?_ ?_ | skip) <;> intro hc <;> (try simp (disch := omega) only [nm, wrapI] at hc) <;> conv => whnf) | (refine .head _ rfl (by kernel_rfl) ?_; conv => whnf) | (refine And.intro ?_ ?_; (focus ((first | omega | decide | (simp (disch := omega) only [nm, wrapI] <;> omega) | (simp [strOf, nm] <;> omega) | rfl); done)); conv => whnf) | (rw [vv]; conv => whnf))
  · exact h
  · refine w21 ?_
    conv => whnf
    refine w22 hM hE hP ?_
    generalize (raO t).getD (0, 0, []) = a
    obtain ⟨k, i, s⟩ := a
    (conv => whnf); repeat' (first | ((first | refine bdec ?_ ?_ | refine bnot ?_ ?_ | refine bsel_intro ?_ ?_ | skip) <;> intro hc <;> (try simp (disch := omega) only [nm, wrapI] at hc) <;> conv => whnf) | (refine .head _ rfl (by kernel_rfl) ?_; conv => whnf) | (refine w23 ?_; conv => whnf) | (apply pcall; (focus (intro _ _ hk; first | exact w23 hk)); conv => whnf) | (refine And.intro ?_ ?_; (focus ((first | omega | decide | (simp (disch := omega) only [nm, wrapI] <;> omega) | (simp [strOf, nm] <;> omega) | rfl); done)); conv => whnf) | (rw [vv]; conv => whnf))
    all_goals first | exact h | (exfalso; simp_all)
end Go.Proofs.SL
