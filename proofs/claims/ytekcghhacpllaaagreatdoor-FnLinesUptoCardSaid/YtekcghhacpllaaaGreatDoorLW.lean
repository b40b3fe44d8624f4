/- Contracts of functions of this program, by the evaluator EN. No conditions but those that each theorem states. -/
import Derived.Test.YtekcghhacpllaaaGreatDoorLI
import Derived.Test.YtekcghhacpllaaaGreatDoorEHd
import Derived.Lib.ItoaLen
set_option linter.unusedVariables false
set_option linter.unusedSimpArgs false
set_option maxRecDepth 100000
set_option maxHeartbeats 8000000
namespace Go.Proofs.SL
open Go Go.Proofs Go.Proofs.EN Go.Proofs.VT
variable {T : Tabs}
theorem w235 {tk : List Tok} {a : Int} {o p : Bool} {Kr Kp : C → List Ob → R} (ht : tk.length ≤ 5000) (ha : 0 ≤ a ∧ a ≤ 5001) (h : ∀ xs a' o', stp tk a o a' o' → xs.length ≤ 6000 → ∀ ver, Kr (.row 1) [oQ tk a' o' p, .row 237 .deep ver (dQDirs xs)]) : Wp T Tryz.prog tt 235 [.ref 0 0] [oQ tk a o p] Kr Kp := by
  refine go (k := 235) (own := true) (cap := .deep) Tryz.func235 (by kernel_rfl) ?_
  (conv => whnf); repeat' (first | ((first | refine bdec ?_ ?_ | refine bnot ?_ ?_ | refine bsel_intro ?_ ?_ | skip) <;> intro hc <;> (try simp (disch := omega) only [nm, nq, dToks_len, dToks_0, dToks_1, dToks_2, Nat.reduceAdd, wrapI] at hc) <;> conv => whnf) | (refine .head _ rfl (by kernel_rfl) ?_; conv => whnf) | (refine And.intro ?_ ?_; (focus ((first | omega | decide | (simp (disch := omega) only [nm, nq, dToks_len, dToks_0, dToks_1, dToks_2, Nat.reduceAdd, wrapI] <;> omega) | (simp [strOf, nm, nq, dToks_len, dToks_0, dToks_1, dToks_2, Nat.reduceAdd] <;> omega) | exact Nat.le_of_ble_eq_true rfl | rfl); done)); conv => whnf) | (rw [vv]; conv => whnf) | (refine NilP.mk fun nb hnb => ?_; conv => whnf))
  refine loopOf3 (fun (b : Int) (q : Bool) (xs : List QDir) => ⟨[(0, .ref 0 0), (3, .row 1)], [oQ tk b q p, .row 237 .deep 0 (dQDirs xs)]⟩) (fun b q xs => stp tk a o b q ∧ (xs.length : Int) + (if q then 0 else -1) ≤ b - a) (fun b q xs => if q then (6000 - b).toNat else 0) a o [] rfl ⟨⟨by omega, .inl rfl, id⟩, by cases o <;> simp <;> omega⟩ ?_
  intro b q xs I ⟨⟨h1, h2, h3⟩, h4⟩ rec
  have hb : b ≤ 5001 := by omega
  cases q
  · simp only [Bool.false_eq_true, if_false] at h4
    (conv => whnf); repeat' (first | ((first | refine bdec ?_ ?_ | refine bnot ?_ ?_ | refine bsel_intro ?_ ?_ | skip) <;> intro hc <;> (try simp (disch := omega) only [nm, nq, dToks_len, dToks_0, dToks_1, dToks_2, Nat.reduceAdd, wrapI] at hc) <;> conv => whnf) | (refine .head _ rfl (by kernel_rfl) ?_; conv => whnf) | (refine And.intro ?_ ?_; (focus ((first | omega | decide | (simp (disch := omega) only [nm, nq, dToks_len, dToks_0, dToks_1, dToks_2, Nat.reduceAdd, wrapI] <;> omega) | (simp [strOf, nm, nq, dToks_len, dToks_0, dToks_1, dToks_2, Nat.reduceAdd] <;> omega) | exact Nat.le_of_ble_eq_true rfl | rfl); done)); conv => whnf) | (rw [vv]; conv => whnf) | (refine NilP.mk fun nb hnb => ?_; conv => whnf))
    exact h xs b false ⟨by omega, by omega, fun e => by cases e⟩ (by omega) 0
  · simp only [if_true] at h4
    have ho : o = true := h3 rfl
    have key : ∀ (b' : Int) (q' : Bool) (g : Bool) (k n : Int) (s : Str), b ≤ b' → (b' = b ∨ b' ≤ tk.length) → (q' = true → b < b') → I ⟨[(0, .ref 0 0), (3, .row 1)], [oQ tk b' q' p, .row 237 .deep 0 (dQDirs xs ++ [[.bool g, .int .i64 k, .int .i64 n, .str s]])]⟩ := fun b' q' nm k n s e1 e2 e3 => by
      refine eqI (rec b' q' (xs ++ [(nm, k, n, s)]) ⟨⟨by omega, by omega, fun _ => ho⟩, ?_⟩ ?_) ?_
      · cases q'
        · simp only [List.length_append, List.length_cons, List.length_nil, Bool.false_eq_true, if_false]; omega
        · have := e3 rfl; simp only [List.length_append, List.length_cons, List.length_nil, if_true]; omega
      · cases q'
        · simp only [if_true, Bool.false_eq_true, if_false]; omega
        · have := e3 rfl; simp only [if_true]; omega
      · simp [dQDirs, dQDir]
    (conv => whnf); repeat' (first | ((first | refine bdec ?_ ?_ | refine bnot ?_ ?_ | refine bsel_intro ?_ ?_ | skip) <;> intro hc <;> (try simp (disch := omega) only [nm, nq, dToks_len, dToks_0, dToks_1, dToks_2, Nat.reduceAdd, wrapI] at hc) <;> conv => whnf) | (refine .head _ rfl (by kernel_rfl) ?_; conv => whnf) | (refine aheadAtB 235 (by kernel_rfl) (by kernel_rfl) ?_; conv => whnf) | (refine PAnd.mk ?_ ?_ <;> conv => whnf) | exact PTrue.mk | (refine .head _ rfl (by kernel_rfl) ?_; conv => whnf) | (refine w229 (by omega) (fun _ => ?_) ?_ <;> conv => whnf) | (refine w211 (by omega) (fun nm0 _ => ?_) ?_ <;> conv => whnf) | (refine w236 ht (by omega) (fun ys c0 q0 hc0 hy0 ver => ?_) <;> conv => whnf) | (apply pcall; (focus (intro _ _ hk; first | exact w229 (by omega) (fun _ => ?_) ?_ hk | exact w211 (by omega) (fun nm0 _ => ?_) ?_ hk | exact w236 ht (by omega) (fun ys c0 q0 hc0 hy0 ver => ?_) hk)); conv => whnf) | (refine And.intro ?_ ?_; (focus ((first | omega | decide | (simp (disch := omega) only [nm, nq, dToks_len, dToks_0, dToks_1, dToks_2, Nat.reduceAdd, wrapI] <;> omega) | (simp [strOf, nm, nq, dToks_len, dToks_0, dToks_1, dToks_2, Nat.reduceAdd] <;> omega) | exact Nat.le_of_ble_eq_true rfl | rfl); done)); conv => whnf) | (rw [vv]; conv => whnf) | (refine NilP.mk fun nb hnb => ?_; conv => whnf))
    all_goals try obtain ⟨m1, m2, m3⟩ := hc0
    all_goals first
      | exact key _ _ _ _ _ _ (by omega) (by omega) (fun _ => by omega)
      | exact h xs _ _ ⟨by omega, by omega, fun _ => ho⟩ (by omega) _
end Go.Proofs.SL
set_option linter.unusedVariables false
set_option linter.unusedSimpArgs false
set_option maxRecDepth 100000
set_option maxHeartbeats 8000000
namespace Go.Proofs.SL
open Go Go.Proofs Go.Proofs.EN Go.Proofs.VT
variable {T : Tabs}
theorem isT_lt {tk : List Tok} {a k : Int} {s : Str} (h : isT tk a k s = true) : a < tk.length := by
  simp only [isT, Bool.and_eq_true, decide_eq_true_eq] at h; exact h.1
theorem w230 {tk : List Tok} {k : Nat} {a : Int} {o p : Bool} {Kr Kp : C → List Ob → R} (ht : tk.length ≤ 5000) (ha : 0 ≤ a ∧ a ≤ 5001) (hk : k ≤ 100)
    (ih : ∀ {a : Int} {o p : Bool} {Kr Kp : C → List Ob → R}, 0 ≤ a → a ≤ 5001 → (∀ xs a' o' p', stp tk a o a' o' → xs.length ≤ 6000 → ∀ ver, Kr (.row 1) [oQ tk a' o' p', .row 201 .deep ver (dQSels 222 237 201 xs)]) → Wp T Tryz.prog tt 212 [.ref 0 0, .d (.int .i64 (k : Int))] [oQ tk a o p] Kr Kp)
    (h : ∀ (x : QSel) a' o' p', stp tk a o a' o' → (o' = true → a < a') → ∀ v1 v2 v3, Kr (.agg [.d (.int .i64 x.kind), .d (.str x.alias), .d (.str x.name), .row 1, .row 2, .row 3]) [oQ tk a' o' p', .row 222 .deep v1 (dQArgs x.args), .row 237 .deep v2 (dQDirs x.dirs), .row 201 .deep v3 (dQSels 222 237 201 x.sels)]) : Wp T Tryz.prog tt 230 [.ref 0 0, .d (.int .i64 ((k : Int) + 1))] [oQ tk a o p] Kr Kp := by
  have hw : IntKind.i64.wrap (a + 1 + 1) = a + 1 + 1 := wrapI (by omega) (by omega)
  have hw2 : IntKind.i64.wrap ((k : Int) + 1 - 1) = (k : Int) := by rw [wrapI (by omega) (by omega)]; omega
  refine go (k := 230) (own := true) (cap := .deep) Tryz.func230 (by kernel_rfl) ?_
  (conv => whnf); repeat' (first | ((first | refine bdec ?_ ?_ | refine bnot ?_ ?_ | refine bsel_intro ?_ ?_ | skip) <;> intro hc <;> (try simp (disch := omega) only [nm, nq, dToks_len, dToks_0, dToks_1, dToks_2, Nat.reduceAdd, wrapI] at hc) <;> conv => whnf) | (refine .head _ rfl (by kernel_rfl) ?_; conv => whnf) | (refine aheadAtB 230 (by kernel_rfl) (by kernel_rfl) ?_; conv => whnf) | (refine PAnd.mk ?_ ?_ <;> conv => whnf) | exact PTrue.mk | (refine .head _ rfl (by kernel_rfl) ?_; conv => whnf) | (rw [hw]) | (refine w229 (by omega) (fun _ => ?_) ?_ <;> conv => whnf) | (refine w211 (by omega) (fun nm0 _ => ?_) ?_ <;> conv => whnf) | (refine w210 (by omega) ?_; conv => whnf) | (refine w236 ht (by omega) (fun ys c0 q0 hc0 hy0 ver1 => ?_) <;> conv => whnf) | (refine w235 ht (by omega) (fun zs d0 r0 hd0 hz0 ver2 => ?_) <;> conv => whnf) | (refine (fun hq => wpArgs (xs' := [.ref 0 0, .d (.int .i64 (k : Int))]) (by rw [hw2]) (ih (by omega) (by omega) hq)) (fun ws e0 s0 p0 he0 hw0 ver3 => ?_) <;> conv => whnf) | (apply pcall; (focus (intro _ _ hk; first | exact w229 (by omega) (fun _ => ?_) ?_ hk | exact w211 (by omega) (fun nm0 _ => ?_) ?_ hk | exact w210 (by omega) hk | exact w236 ht (by omega) (fun ys c0 q0 hc0 hy0 ver1 => ?_) hk | exact w235 ht (by omega) (fun zs d0 r0 hd0 hz0 ver2 => ?_) hk | exact (fun hq => wpArgs (xs' := [.ref 0 0, .d (.int .i64 (k : Int))]) (by rw [hw2]) (ih (by omega) (by omega) hq)) (fun ws e0 s0 p0 he0 hw0 ver3 => ?_) hk)); conv => whnf) | (refine And.intro ?_ ?_; (focus ((first | omega | decide | (simp (disch := omega) only [nm, nq, dToks_len, dToks_0, dToks_1, dToks_2, Nat.reduceAdd, wrapI] <;> omega) | (simp [strOf, nm, nq, dToks_len, dToks_0, dToks_1, dToks_2, Nat.reduceAdd] <;> omega) | exact Nat.le_of_ble_eq_true rfl | rfl); done)); conv => whnf) | (rw [vv]; conv => whnf) | (refine NilP.mk fun nb hnb => ?_; conv => whnf))
  all_goals try have hT := isT_lt (show isT tk (a + 1) 1 [111, 110] = true from hc)
  all_goals first
    | (refine h ⟨_, _, _, [], zs, []⟩ _ _ _ ⟨?_, ?_, ?_⟩ ?_ _ _ _ <;> (first | omega | (intro e; omega) | (intro e; exact hd0.2.2 e) | (intro e; exact hd0.2.2 (he0.2.2 e)) | (intro e; exact hc0.2.2 (hd0.2.2 e)) | (intro e; exact hc0.2.2 (hd0.2.2 (he0.2.2 e))) | (intro e; exact absurd (hd0.2.2 e) Bool.false_ne_true) | (intro e; exact absurd (hd0.2.2 (he0.2.2 e)) Bool.false_ne_true) | (intro e; exact absurd (hc0.2.2 (hd0.2.2 e)) Bool.false_ne_true) | (intro e; exact absurd (hc0.2.2 (hd0.2.2 (he0.2.2 e))) Bool.false_ne_true)))
    | (refine h ⟨_, _, _, [], zs, ws⟩ _ _ _ ⟨?_, ?_, ?_⟩ ?_ _ _ _ <;> (first | omega | (intro e; omega) | (intro e; exact hd0.2.2 e) | (intro e; exact hd0.2.2 (he0.2.2 e)) | (intro e; exact hc0.2.2 (hd0.2.2 e)) | (intro e; exact hc0.2.2 (hd0.2.2 (he0.2.2 e))) | (intro e; exact absurd (hd0.2.2 e) Bool.false_ne_true) | (intro e; exact absurd (hd0.2.2 (he0.2.2 e)) Bool.false_ne_true) | (intro e; exact absurd (hc0.2.2 (hd0.2.2 e)) Bool.false_ne_true) | (intro e; exact absurd (hc0.2.2 (hd0.2.2 (he0.2.2 e))) Bool.false_ne_true)))
    | (refine h ⟨_, _, _, ys, zs, []⟩ _ _ _ ⟨?_, ?_, ?_⟩ ?_ _ _ _ <;> (first | omega | (intro e; omega) | (intro e; exact hd0.2.2 e) | (intro e; exact hd0.2.2 (he0.2.2 e)) | (intro e; exact hc0.2.2 (hd0.2.2 e)) | (intro e; exact hc0.2.2 (hd0.2.2 (he0.2.2 e))) | (intro e; exact absurd (hd0.2.2 e) Bool.false_ne_true) | (intro e; exact absurd (hd0.2.2 (he0.2.2 e)) Bool.false_ne_true) | (intro e; exact absurd (hc0.2.2 (hd0.2.2 e)) Bool.false_ne_true) | (intro e; exact absurd (hc0.2.2 (hd0.2.2 (he0.2.2 e))) Bool.false_ne_true)))
    | (refine h ⟨_, _, _, ys, zs, ws⟩ _ _ _ ⟨?_, ?_, ?_⟩ ?_ _ _ _ <;> (first | omega | (intro e; omega) | (intro e; exact hd0.2.2 e) | (intro e; exact hd0.2.2 (he0.2.2 e)) | (intro e; exact hc0.2.2 (hd0.2.2 e)) | (intro e; exact hc0.2.2 (hd0.2.2 (he0.2.2 e))) | (intro e; exact absurd (hd0.2.2 e) Bool.false_ne_true) | (intro e; exact absurd (hd0.2.2 (he0.2.2 e)) Bool.false_ne_true) | (intro e; exact absurd (hc0.2.2 (hd0.2.2 e)) Bool.false_ne_true) | (intro e; exact absurd (hc0.2.2 (hd0.2.2 (he0.2.2 e))) Bool.false_ne_true)))
end Go.Proofs.SL
set_option linter.unusedVariables false
set_option linter.unusedSimpArgs false
set_option maxRecDepth 100000
set_option maxHeartbeats 8000000
namespace Go.Proofs.SL
open Go Go.Proofs Go.Proofs.EN Go.Proofs.VT
variable {T : Tabs}
theorem w212 {tk : List Tok} (ht : tk.length ≤ 5000) : ∀ (k : Nat) {a : Int} {o p : Bool} {Kr Kp : C → List Ob → R}, 0 ≤ a → a ≤ 5001 → k ≤ 100 → (h : ∀ xs a' o' p', stp tk a o a' o' → xs.length ≤ 6000 → (o' = true → a < a') → ∀ ver, Kr (.row 1) [oQ tk a' o' p', .row 201 .deep ver (dQSels 222 237 201 xs)]) → Wp T Tryz.prog tt 212 [.ref 0 0, .d (.int .i64 (k : Int))] [oQ tk a o p] Kr Kp := by
  intro k
  induction k with
  | zero =>
    intro a o p Kr Kp h1 h2 hk h
    refine go (k := 212) (own := true) (cap := .deep) Tryz.func212 (by kernel_rfl) ?_
    (conv => whnf); repeat' (first | ((first | refine bdec ?_ ?_ | refine bnot ?_ ?_ | refine bsel_intro ?_ ?_ | skip) <;> intro hc <;> (try simp (disch := omega) only [nm, nq, dToks_len, dToks_0, dToks_1, dToks_2, Nat.reduceAdd, wrapI] at hc) <;> conv => whnf) | (refine .head _ rfl (by kernel_rfl) ?_; conv => whnf) | (refine aheadAtB 212 (by kernel_rfl) (by kernel_rfl) ?_; conv => whnf) | (refine PAnd.mk ?_ ?_ <;> conv => whnf) | exact PTrue.mk | (refine .head _ rfl (by kernel_rfl) ?_; conv => whnf) | (refine w228 (by omega) (fun _ => ?_) ?_ <;> conv => whnf) | (apply pcall; (focus (intro _ _ hk; first | exact w228 (by omega) (fun _ => ?_) ?_ hk)); conv => whnf) | (refine And.intro ?_ ?_; (focus ((first | omega | decide | (simp (disch := omega) only [nm, nq, dToks_len, dToks_0, dToks_1, dToks_2, Nat.reduceAdd, wrapI] <;> omega) | (simp [strOf, nm, nq, dToks_len, dToks_0, dToks_1, dToks_2, Nat.reduceAdd] <;> omega) | exact Nat.le_of_ble_eq_true rfl | rfl); done)); conv => whnf) | (rw [vv]; conv => whnf) | (refine NilP.mk fun nb hnb => ?_; conv => whnf))
    case' zero.refine_1.refine_2 => subst hc
    all_goals
      refine loopOf (fun _ : Nat => ⟨[(0, .ref 0 0), (1, .d (.int .i64 ((0 : Nat) : Int))), (5, .row 1)], [oQ tk _ false _, .row 201 .deep 0 []]⟩) (fun _ => True) (fun _ => 0) 0 rfl trivial ?_
      intro i I hi rec
      (conv => whnf); repeat' (first | ((first | refine bdec ?_ ?_ | refine bnot ?_ ?_ | refine bsel_intro ?_ ?_ | skip) <;> intro hc <;> (try simp (disch := omega) only [nm, nq, dToks_len, dToks_0, dToks_1, dToks_2, Nat.reduceAdd, wrapI] at hc) <;> conv => whnf) | (refine .head _ rfl (by kernel_rfl) ?_; conv => whnf) | (refine And.intro ?_ ?_; (focus ((first | omega | decide | (simp (disch := omega) only [nm, nq, dToks_len, dToks_0, dToks_1, dToks_2, Nat.reduceAdd, wrapI] <;> omega) | (simp [strOf, nm, nq, dToks_len, dToks_0, dToks_1, dToks_2, Nat.reduceAdd] <;> omega) | exact Nat.le_of_ble_eq_true rfl | rfl); done)); conv => whnf) | (rw [vv]; conv => whnf) | (refine NilP.mk fun nb hnb => ?_; conv => whnf))
      refine krO (h [] _ _ _ ⟨?_, ?_, ?_⟩ (by simp) (fun e => by cases e) 0) rfl
      all_goals first | omega | (intro e; cases e)
  | succ k ih =>
    intro a o p Kr Kp h1 h2 hk h
    refine go (k := 212) (own := true) (cap := .deep) Tryz.func212 (by kernel_rfl) ?_
    (conv => whnf); repeat' (first | ((first | refine bdec ?_ ?_ | refine bnot ?_ ?_ | refine bsel_intro ?_ ?_ | skip) <;> intro hc <;> (try simp (disch := omega) only [nm, nq, dToks_len, dToks_0, dToks_1, dToks_2, Nat.reduceAdd, wrapI] at hc) <;> conv => whnf) | (refine .head _ rfl (by kernel_rfl) ?_; conv => whnf) | (refine aheadAtB 212 (by kernel_rfl) (by kernel_rfl) ?_; conv => whnf) | (refine PAnd.mk ?_ ?_ <;> conv => whnf) | exact PTrue.mk | (refine .head _ rfl (by kernel_rfl) ?_; conv => whnf) | (refine w228 (by omega) (fun _ => ?_) ?_ <;> conv => whnf) | (apply pcall; (focus (intro _ _ hk; first | exact w228 (by omega) (fun _ => ?_) ?_ hk)); conv => whnf) | (refine And.intro ?_ ?_; (focus ((first | omega | decide | (simp (disch := omega) only [nm, nq, dToks_len, dToks_0, dToks_1, dToks_2, Nat.reduceAdd, wrapI] <;> omega) | (simp [strOf, nm, nq, dToks_len, dToks_0, dToks_1, dToks_2, Nat.reduceAdd] <;> omega) | exact Nat.le_of_ble_eq_true rfl | rfl); done)); conv => whnf) | (rw [vv]; conv => whnf) | (refine NilP.mk fun nb hnb => ?_; conv => whnf))
    case' succ.refine_1.refine_1 =>
      refine loopOf3 (fun (b : Int) (q : Bool) (xs : Bool × List QSel) => ⟨[(0, .ref 0 0), (1, .d (.int .i64 ((k + 1 : Nat) : Int))), (5, .row 1)], [oQ tk b q xs.1, .row 201 .deep 0 (dQSels 222 237 201 xs.2)]⟩) (fun b q xs => stp tk a o b q ∧ (q = true → a < b) ∧ (xs.2.length : Int) + (if q then 0 else -1) ≤ b - a) (fun b q xs => if q then (6000 - b).toNat else 0) (a + 1) o (p, []) (by simp [dQSels]) ⟨⟨by omega, by omega, id⟩, fun _ => by omega, by cases o <;> simp <;> omega⟩ ?_
    case' succ.refine_1.refine_2 =>
      refine loopOf3 (fun (b : Int) (q : Bool) (xs : Bool × List QSel) => ⟨[(0, .ref 0 0), (1, .d (.int .i64 ((k + 1 : Nat) : Int))), (5, .row 1)], [oQ tk b q xs.1, .row 201 .deep 0 (dQSels 222 237 201 xs.2)]⟩) (fun b q xs => stp tk a o b q ∧ (q = true → a < b) ∧ (xs.2.length : Int) + (if q then 0 else -1) ≤ b - a) (fun b q xs => if q then (6000 - b).toNat else 0) (a + 1) o (p, []) (by simp [dQSels]) ⟨⟨by omega, by omega, id⟩, fun _ => by omega, by cases o <;> simp <;> omega⟩ ?_
    case' succ.refine_2 =>
      refine loopOf3 (fun (b : Int) (q : Bool) (xs : Bool × List QSel) => ⟨[(0, .ref 0 0), (1, .d (.int .i64 ((k + 1 : Nat) : Int))), (5, .row 1)], [oQ tk b q xs.1, .row 201 .deep 0 (dQSels 222 237 201 xs.2)]⟩) (fun b q xs => stp tk a o b q ∧ (q = true → a < b) ∧ (xs.2.length : Int) + (if q then 0 else -1) ≤ b - a) (fun b q xs => if q then (6000 - b).toNat else 0) a false (p, []) (by simp [dQSels]) ⟨⟨by omega, by omega, fun e => (by cases e)⟩, fun e => (by cases e), by simp⟩ ?_
    all_goals
      intro b q pxs I ⟨⟨g1, g2, g3⟩, g4, h4⟩ rec
      obtain ⟨p1, xs⟩ := pxs
      simp only at h4 ⊢
      have hb : b ≤ 5001 := by omega
      cases q
      · simp only [Bool.false_eq_true, if_false] at h4
        (conv => whnf); repeat' (first | ((first | refine bdec ?_ ?_ | refine bnot ?_ ?_ | refine bsel_intro ?_ ?_ | skip) <;> intro hc <;> (try simp (disch := omega) only [nm, nq, dToks_len, dToks_0, dToks_1, dToks_2, Nat.reduceAdd, wrapI] at hc) <;> conv => whnf) | (refine .head _ rfl (by kernel_rfl) ?_; conv => whnf) | (refine And.intro ?_ ?_; (focus ((first | omega | decide | (simp (disch := omega) only [nm, nq, dToks_len, dToks_0, dToks_1, dToks_2, Nat.reduceAdd, wrapI] <;> omega) | (simp [strOf, nm, nq, dToks_len, dToks_0, dToks_1, dToks_2, Nat.reduceAdd] <;> omega) | exact Nat.le_of_ble_eq_true rfl | rfl); done)); conv => whnf) | (rw [vv]; conv => whnf) | (refine NilP.mk fun nb hnb => ?_; conv => whnf))
        exact h xs b false p1 ⟨by omega, by omega, fun e => by cases e⟩ (by omega) (fun e => by cases e) 0
      · simp only [if_true] at h4
        have ho : o = true := g3 rfl
        (conv => whnf); repeat' (first | ((first | refine bdec ?_ ?_ | refine bnot ?_ ?_ | refine bsel_intro ?_ ?_ | skip) <;> intro hc <;> (try simp (disch := omega) only [nm, nq, dToks_len, dToks_0, dToks_1, dToks_2, Nat.reduceAdd, wrapI] at hc) <;> conv => whnf) | (refine .head _ rfl (by kernel_rfl) ?_; conv => whnf) | (refine aheadAtB 212 (by kernel_rfl) (by kernel_rfl) ?_; conv => whnf) | (refine PAnd.mk ?_ ?_ <;> conv => whnf) | exact PTrue.mk | (refine .head _ rfl (by kernel_rfl) ?_; conv => whnf) | (refine w229 (by omega) (fun _ => ?_) ?_ <;> conv => whnf) | (refine w230 ht (by omega) (by omega) (fun u1 u2 u3 => ih u1 u2 (by omega) fun xs a' o' p' s1 s2 _ ver => u3 xs a' o' p' s1 s2 ver) (fun x c0 q0 p0 hc0 hp0 v1 v2 v3 => ?_) <;> conv => whnf) | (apply pcall; (focus (intro _ _ hk; first | exact w229 (by omega) (fun _ => ?_) ?_ hk | exact w230 ht (by omega) (by omega) (fun u1 u2 u3 => ih u1 u2 (by omega) fun xs a' o' p' s1 s2 _ ver => u3 xs a' o' p' s1 s2 ver) (fun x c0 q0 p0 hc0 hp0 v1 v2 v3 => ?_) hk)); conv => whnf) | (refine And.intro ?_ ?_; (focus ((first | omega | decide | (simp (disch := omega) only [nm, nq, dToks_len, dToks_0, dToks_1, dToks_2, Nat.reduceAdd, wrapI] <;> omega) | (simp [strOf, nm, nq, dToks_len, dToks_0, dToks_1, dToks_2, Nat.reduceAdd] <;> omega) | exact Nat.le_of_ble_eq_true rfl | rfl); done)); conv => whnf) | (rw [vv]; conv => whnf) | (refine NilP.mk fun nb hnb => ?_; conv => whnf))
        · exact h xs (b + 1) _ p1 ⟨by omega, by omega, fun _ => ho⟩ (by omega) (fun _ => by omega) 0
        · refine eqI (rec c0 q0 (p0, xs ++ [x]) ⟨⟨by omega, by omega, fun _ => ho⟩, fun e => by have := hp0 e; omega, ?_⟩ ?_) ?_
          · cases q0
            · simp only [List.length_append, List.length_cons, List.length_nil, Bool.false_eq_true, if_false]; omega
            · have := hp0 rfl; simp only [List.length_append, List.length_cons, List.length_nil, if_true]; omega
          · cases q0
            · simp only [if_true, Bool.false_eq_true, if_false]; omega
            · have := hp0 rfl; simp only [if_true]; omega
          · simp [dQSels_map, dQSel_eq]
end Go.Proofs.SL
set_option linter.unusedVariables false
set_option linter.unusedSimpArgs false
set_option maxRecDepth 100000
set_option maxHeartbeats 8000000
namespace Go.Proofs.SL
open Go Go.Proofs Go.Proofs.EN Go.Proofs.VT
variable {T : Tabs}
theorem w183 {tk : List Tok} {a : Int} {o p : Bool} {Kr Kp : C → List Ob → R} (ht : tk.length ≤ 4000) (ha : 0 ≤ a ∧ a ≤ 4002)
    (h : ∀ (x : QDef) a' o' p', a ≤ a' → a' ≤ 5000 → (o' = true → o = true ∧ a < a' ∧ a' ≤ tk.length) → ∀ ver, Kr (.agg [.d (.int .i64 x.1), .d (.str x.2.1), .d (.str x.2.2.1), .row 1]) [oQ tk a' o' p', .row 201 .deep ver (dQSels 222 237 201 x.2.2.2)]) : Wp T Tryz.prog tt 183 [.ref 0 0] [oQ tk a o p] Kr Kp := by
  have hw2 : IntKind.i64.wrap (a + 1 + 1) = a + 1 + 1 := wrapI (by omega) (by omega)
  have hw3 : IntKind.i64.wrap (a + 1 + 1 + 1) = a + 1 + 1 + 1 := wrapI (by omega) (by omega)
  refine go (k := 183) (own := true) (cap := .deep) Tryz.func183 (by kernel_rfl) ?_
  (conv => whnf); repeat' (first | ((first | refine bdec ?_ ?_ | refine bnot ?_ ?_ | refine bsel_intro ?_ ?_ | skip) <;> intro hc <;> (try simp (disch := omega) only [nm, nq, dToks_len, dToks_0, dToks_1, dToks_2, Nat.reduceAdd, wrapI] at hc) <;> conv => whnf) | (refine .head _ rfl (by kernel_rfl) ?_; conv => whnf) | (refine aheadAtB 183 (by kernel_rfl) (by kernel_rfl) ?_; conv => whnf) | (refine PAnd.mk ?_ ?_ <;> conv => whnf) | exact PTrue.mk | (refine .head _ rfl (by kernel_rfl) ?_; conv => whnf) | (rw [hw2]) | (rw [hw3]) | (refine w210 (by omega) ?_; conv => whnf) | (refine w211 (by omega) (fun nm0 _ => ?_) ?_ <;> conv => whnf) | (refine (fun hq => wpArgs (xs' := [.ref 0 0, .d (.int .i64 ((7 : Nat) : Int))]) rfl (w212 (by omega) 7 (by omega) (by omega) (by omega) hq)) (fun ws e0 s0 p0 he0 hw0 hq0 ver3 => ?_) <;> conv => whnf) | (apply pcall; (focus (intro _ _ hk; first | exact w210 (by omega) hk | exact w211 (by omega) (fun nm0 _ => ?_) ?_ hk | exact (fun hq => wpArgs (xs' := [.ref 0 0, .d (.int .i64 ((7 : Nat) : Int))]) rfl (w212 (by omega) 7 (by omega) (by omega) (by omega) hq)) (fun ws e0 s0 p0 he0 hw0 hq0 ver3 => ?_) hk)); conv => whnf) | (refine And.intro ?_ ?_; (focus ((first | omega | decide | (simp (disch := omega) only [nm, nq, dToks_len, dToks_0, dToks_1, dToks_2, Nat.reduceAdd, wrapI] <;> omega) | (simp [strOf, nm, nq, dToks_len, dToks_0, dToks_1, dToks_2, Nat.reduceAdd] <;> omega) | exact Nat.le_of_ble_eq_true rfl | rfl); done)); conv => whnf) | (rw [vv]; conv => whnf) | (refine NilP.mk fun nb hnb => ?_; conv => whnf))
  all_goals first
    | (refine h (_, _, _, ws) _ _ _ ?_ ?_ ?_ _ <;> (first | omega | (intro e; have ho := ‹o = true›; exact ⟨ho, by have := hq0 e; omega, by have := hq0 e; omega⟩) | (intro e; exact ⟨he0.2.2 e, by have := hq0 e; omega, by have := hq0 e; omega⟩) | (intro e; exact absurd (he0.2.2 e) Bool.false_ne_true)))
end Go.Proofs.SL
set_option linter.unusedVariables false
set_option linter.unusedSimpArgs false
set_option maxRecDepth 100000
set_option maxHeartbeats 8000000
namespace Go.Proofs.SL
open Go Go.Proofs Go.Proofs.EN Go.Proofs.VT
variable {T : Tabs}
theorem itoa_len {n : Int} (h1 : -9223372036854775808 ≤ n ∧ n ≤ 9223372036854775807) : (Lib.itoa n).length ≤ 21 := by
  have := Lib.itoa_length_le n h1.1 h1.2
  omega
theorem w94a : ∀ (m : Nat) (n : Int), 2 * n.natAbs + (if n < 0 then 1 else 0) < m → -9223372036854775808 ≤ n ∧ n ≤ 9223372036854775807 → ∀ {Kr Kp : C → List Ob → R}, Kr (.d (.str (Lib.itoa n))) [] → Wp T Tryz.prog tt 94 [.d (.int .i64 n)] [] Kr Kp := by
  intro m
  induction m with
  | zero => intro n h; omega
  | succ m ih =>
    intro n hm hn Kr Kp h
    refine go (k := 94) (own := true) (cap := .deep) Tryz.func94 (by kernel_rfl) ?_
    (conv => whnf); repeat' (first | ((first | refine bdec ?_ ?_ | refine bnot ?_ ?_ | refine bsel_intro ?_ ?_ | skip) <;> intro hc <;> (try simp (disch := omega) only [nm, wrapI] at hc) <;> conv => whnf) | (refine .head _ rfl (by kernel_rfl) ?_; conv => whnf) | (refine And.intro ?_ ?_; (focus ((first | omega | decide | (simp (disch := omega) only [nm, wrapI] <;> omega) | (simp [strOf, nm] <;> omega) | exact Nat.le_of_ble_eq_true rfl | rfl); done)); conv => whnf) | (rw [vv]; conv => whnf) | (refine NilP.mk fun nb hnb => ?_; conv => whnf))
    · subst hc
      rw [show Lib.itoa (-9223372036854775808) = [45, 57, 50, 50, 51, 51, 55, 50, 48, 51, 54, 56, 53, 52, 55, 55, 53, 56, 48, 56] by simp [Lib.itoa, Lib.decDigits]] at h
      exact h
    · refine wpArgs (xs' := [.d (.int .i64 (-n))]) (by rw [wrapI (by omega) (by omega), Int.zero_sub]) (ih _ (by rw [if_neg (by omega)]; rw [if_pos hc] at hm; omega) (by omega) ?_)
      have hl := itoa_len (n := -n) (by omega)
      (conv => whnf); repeat' (first | ((first | refine bdec ?_ ?_ | refine bnot ?_ ?_ | refine bsel_intro ?_ ?_ | skip) <;> intro hc <;> (try simp (disch := omega) only [nm, wrapI] at hc) <;> conv => whnf) | (refine .head _ rfl (by kernel_rfl) ?_; conv => whnf) | (refine And.intro ?_ ?_; (focus ((first | omega | decide | (simp (disch := omega) only [nm, wrapI] <;> omega) | (simp [strOf, nm] <;> omega) | exact Nat.le_of_ble_eq_true rfl | rfl); done)); conv => whnf) | (rw [vv]; conv => whnf) | (refine NilP.mk fun nb hnb => ?_; conv => whnf))
      have e : Lib.itoa n = 45 :: Lib.itoa (-n) := by
        rw [Lib.itoa, if_pos hc, Lib.itoa, if_neg (by omega)]
        congr 1
        rw [show n.natAbs = (-n).toNat by omega]
      rw [e] at h
      exact h
    · have e : Lib.itoa n = [UInt8.ofNat (48 + n).toNat] := by
        rw [Lib.itoa, if_neg (by omega), Lib.decDigits, dif_pos (by omega), show 48 + n.toNat = (48 + n).toNat by omega]
      rw [e] at h
      simp only [strOf, List.map_cons, List.map_nil, List.getD_cons_zero, getI]
      rw [wrapI (by omega) (by omega), wrapU8 (by omega) (by omega)]
      exact h
    · have ed : n.tdiv 10 = n / 10 := Int.tdiv_eq_ediv_of_nonneg (by omega)
      have em : n.tmod 10 = n % 10 := Int.tmod_eq_emod_of_nonneg (by omega)
      have hl := itoa_len (n := n / 10) (by omega)
      rw [ed, wrapI (by omega) (by omega)]
      refine ⟨_, fun _ _ hk => ih _ (by rw [if_neg (by omega)]; rw [if_neg (by omega)] at hm; omega) (by omega) hk, ?_⟩
      (conv => whnf); repeat' (first | ((first | refine bdec ?_ ?_ | refine bnot ?_ ?_ | refine bsel_intro ?_ ?_ | skip) <;> intro hc <;> (try simp (disch := omega) only [nm, wrapI] at hc) <;> conv => whnf) | (refine .head _ rfl (by kernel_rfl) ?_; conv => whnf) | (refine And.intro ?_ ?_; (focus ((first | omega | decide | (simp (disch := omega) only [nm, wrapI] <;> omega) | (simp [strOf, nm] <;> omega) | exact Nat.le_of_ble_eq_true rfl | rfl); done)); conv => whnf) | (rw [vv]; conv => whnf) | (refine NilP.mk fun nb hnb => ?_; conv => whnf))
      have e : Lib.itoa n = Lib.itoa (n / 10) ++ [UInt8.ofNat (48 + n % 10).toNat] := by
        rw [Lib.itoa, if_neg (by omega), Lib.decDigits, dif_neg (by omega), Lib.itoa, if_neg (by omega), show (n / 10).toNat = n.toNat / 10 by omega, show (48 + n % 10).toNat = 48 + n.toNat % 10 by omega]
      rw [e] at h
      simp only [strOf, List.map_cons, List.map_nil, List.getD_cons_zero, getI]
      rw [em, wrapI (by omega) (by omega), wrapU8 (by omega) (by omega)]
      exact h
theorem w94 {n : Int} {Kr Kp : C → List Ob → R} (hn : -9223372036854775808 ≤ n ∧ n ≤ 9223372036854775807) (h : Kr (.d (.str (Lib.itoa n))) []) : Wp T Tryz.prog tt 94 [.d (.int .i64 n)] [] Kr Kp :=
  w94a _ n (Nat.lt_succ_self _) hn h
/-! ### Numbers -/
/-- The number that digits are, one behind another. -/
def numGo : Int → Str → Option Int
  | n, [] => some n
  | n, c :: r => if c.toNat < 48 ∨ 57 < c.toNat then none else numGo (n * 10 + (c.toNat : Int) - 48) r
def numS (sg : Int) (s : Str) : Option Int := if s.length = 0 ∨ 18 < s.length ∨ ((s.getD 0 0).toNat = 48 ∧ (1 < s.length ∨ sg < 0)) then none else (numGo 0 s).map (sg * ·)
def num (t : Str) : Option Int := if 0 < t.length ∧ (t.getD 0 0).toNat = 45 then numS (-1) (t.drop 1) else numS 1 t
theorem pow10_le {i : Nat} (h : i ≤ 18) : ((10 : Int) ^ i) ≤ 1000000000000000000 := by
  have h1 : (10 : Nat) ^ i ≤ 10 ^ 18 := Nat.pow_le_pow_right (by omega) h
  have h2 : (((10 : Nat) ^ i : Nat) : Int) ≤ ((10 ^ 18 : Nat) : Int) := Int.ofNat_le.2 h1
  simpa using h2
def KN (Kr : C → List Ob → R) (r : Option Int) : R := Kr (.tuple [.d (.int .i64 (r.getD 0)), .d (.bool r.isSome)]) []
theorem KN.no {Kr : C → List Ob → R} {r : Option Int} (h : KN Kr r) (e : r = none) : Kr (.tuple [.d (.int .i64 0), .d (.bool false)]) [] := by rw [e] at h; exact h
theorem KN.yes {Kr : C → List Ob → R} {r : Option Int} {n : Int} (h : KN Kr r) (e : r = some n) : Kr (.tuple [.d (.int .i64 n), .d (.bool true)]) [] := by rw [e] at h; exact h
def NP (t : Str) (a : Str × Int × Nat × Int) : Prop :=
  a.2.2.1 ≤ a.1.length ∧ a.1.length ≤ 18 ∧ 0 ≤ a.2.2.2 ∧ a.2.2.2 < 10 ^ a.2.2.1 ∧ num t = (numGo a.2.2.2 (a.1.drop a.2.2.1)).map (a.2.1 * ·) ∧ (a.2.1 = 1 ∨ a.2.1 = -1)
theorem drop_cons {s : Str} {i : Nat} (h : i < s.length) : s.drop i = s[i]?.getD 0 :: s.drop (i + 1) := by
  rw [List.drop_eq_getElem_cons h]; simp [h]
theorem numGo_no {n : Int} {c : UInt8} {r : Str} (h : (c.toNat : Int) < 48 ∨ 57 < (c.toNat : Int)) : numGo n (c :: r) = none := by
  rw [numGo, if_pos (by omega)]
theorem numGo_yes {n : Int} {c : UInt8} {r : Str} (h : ¬ (c.toNat : Int) < 48) (h2 : ¬ 57 < (c.toNat : Int)) : numGo n (c :: r) = numGo (n * 10 + (c.toNat : Int) - 48) r := by
  rw [numGo, if_neg (by omega)]
theorem w132 {t : Str} {Kr Kp : C → List Ob → R} (h : KN Kr (num t)) : Wp T Tryz.prog tt 132 [.d (.str t)] [] Kr Kp := by
  refine go (k := 132) (own := true) (cap := .deep) Tryz.func132 (by kernel_rfl) ?_
  (conv => whnf); repeat' (first | ((first | refine bdec ?_ ?_ | refine bnot ?_ ?_ | refine bsel_intro ?_ ?_ | skip) <;> intro hc <;> (try simp (disch := omega) only [nm, wrapI] at hc) <;> conv => whnf) | (refine .head _ rfl (by kernel_rfl) ?_; conv => whnf) | (refine And.intro ?_ ?_; (focus ((first | omega | decide | (simp (disch := omega) only [nm, wrapI] <;> omega) | (simp [strOf, nm] <;> omega) | exact Nat.le_of_ble_eq_true rfl | rfl); done)); conv => whnf) | (rw [vv]; conv => whnf) | (refine NilP.mk fun nb hnb => ?_; conv => whnf))
  any_goals (refine h.no ?_; simp only [num, numS, List.getD_eq_getElem?_getD, Int.reduceToNat, List.take_length, Int.toNat_natCast, List.length_drop] at *; repeat' split) <;> first | rfl | omega
  all_goals (first
    | refine loopOf (fun a : Str × Int × Nat × Int => ⟨[(0, .d (.str a.1)), (4, .d (.int .i64 a.2.1)), (5, .d (.int .i64 a.2.2.2)), (6, .d (.int .i64 (a.2.2.1 : Int)))], []⟩) (NP t) (fun a => a.1.length - a.2.2.1) (t, 1, 0, 0) rfl ⟨by simp, by simp only; omega, by simp, by simp, ?_, .inl rfl⟩ ?_
    | refine loopOf (fun a : Str × Int × Nat × Int => ⟨[(0, .d (.str a.1)), (4, .d (.int .i64 a.2.1)), (5, .d (.int .i64 a.2.2.2)), (6, .d (.int .i64 (a.2.2.1 : Int)))], []⟩) (NP t) (fun a => a.1.length - a.2.2.1) (t.drop 1, -1, 0, 0) (by simp) ⟨by simp, by simp only [Int.reduceToNat, List.take_length, List.length_drop] at *; omega, by simp, by simp, ?_, .inr rfl⟩ ?_)
  any_goals ((simp only [num, numS, List.getD_eq_getElem?_getD, Int.reduceToNat, List.take_length, Int.toNat_natCast, List.length_drop] at *; repeat' split) <;> first | rfl | omega)
  all_goals
    rintro ⟨s, sg, i, n⟩ I ⟨hi, h18, h0, hlt, hn, hsg⟩ rec
    simp only at hi h18 h0 hlt hn hsg rec
    have hp := pow10_le (i := i) (by omega)
    (conv => whnf); repeat' (first | ((first | refine bdec ?_ ?_ | refine bnot ?_ ?_ | refine bsel_intro ?_ ?_ | skip) <;> intro hc <;> (try simp (disch := omega) only [nm, wrapI] at hc) <;> conv => whnf) | (refine .head _ rfl (by kernel_rfl) ?_; conv => whnf) | (refine And.intro ?_ ?_; (focus ((first | omega | decide | (simp (disch := omega) only [nm, wrapI] <;> omega) | (simp [strOf, nm] <;> omega) | exact Nat.le_of_ble_eq_true rfl | rfl); done)); conv => whnf) | (rw [vv]; conv => whnf) | (refine NilP.mk fun nb hnb => ?_; conv => whnf))
    · refine h.no ?_
      rw [hn, drop_cons (by omega), numGo_no (by omega)]; rfl
    · refine h.no ?_
      rw [hn, drop_cons (by omega), numGo_no (by omega)]; rfl
    · have hp2 := pow10_le (i := i + 1) (by omega)
      rw [Int.pow_succ] at hp2
      have hc8 := UInt8.toNat_lt (s[i]?.getD 0)
      refine eqI (rec (s, sg, i + 1, n * 10 + ((s[i]?.getD 0).toNat : Int) - 48) ⟨by simp only; omega, h18, by simp only; omega, ?_, ?_, hsg⟩ (by simp only; omega)) ?_
      · simp only [Int.pow_succ]; omega
      · simp only; rw [hn, drop_cons (by omega), numGo_yes (by omega) (by omega)]
      · simp (disch := omega) only [nm, wrapI]; rfl
    · rw [show s.drop i = [] by rw [List.drop_eq_nil_iff]; omega, numGo] at hn
      have := h.yes hn
      rcases hsg with rfl | rfl <;> (simp (disch := omega) only [wrapI]; exact this)
end Go.Proofs.SL
