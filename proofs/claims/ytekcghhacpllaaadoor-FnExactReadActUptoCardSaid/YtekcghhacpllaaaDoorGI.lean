/- Contracts of functions of this program, by the evaluator EN; part GI. No conditions but those that each theorem states. -/
import Derived.Test.YtekcghhacpllaaaDoorGH
set_option linter.unusedVariables false
set_option linter.unusedSimpArgs false
set_option maxRecDepth 100000
set_option maxHeartbeats 8000000
namespace Go.Proofs.SL
open Go Go.Proofs Go.Proofs.EN Go.Proofs.VT
variable {T : Tabs}
/-! ### Joined texts -/
theorem flatten_take (L : List Str) : ∀ i, (L.take i).flatten.length ≤ L.flatten.length := by
  induction L with
  | nil => intro i; simp
  | cons x L ih =>
    intro i
    cases i with
    | zero => simp
    | succ i => simp only [List.take_succ_cons, List.flatten_cons, List.length_append]; have := ih i; omega
theorem join_le (l : List Str) (s : Str) (i : Nat) : (Lib.join (l.take i) s).length ≤ (Lib.join l s).length := by
  cases l with
  | nil => simp
  | cons x r =>
    cases i with
    | zero => simp [Lib.join_nil]
    | succ i =>
      rw [List.take_succ_cons, Lib.join_cons, Lib.join_cons, List.length_append, List.length_append]
      have : (Lib.joinTail s (r.take i)).length ≤ (Lib.joinTail s r).length := by
        unfold Lib.joinTail
        rw [List.map_take]
        exact flatten_take _ i
      omega
theorem join_snoc (l : List Str) (s : Str) (i : Nat) (hi : i < l.length) :
    Lib.join (l.take (i + 1)) s = (if 0 < i then Lib.join (l.take i) s ++ s else Lib.join (l.take i) s) ++ l[i]?.getD [] := by
  rw [List.take_add_one, List.getElem?_eq_getElem hi]
  by_cases h0 : i = 0
  · subst h0
    simp [Lib.join_one, Lib.join_nil]
  · rw [if_pos (by omega)]
    have hne : l.take i ≠ [] := by
      intro h
      have := congrArg List.length h
      rw [List.length_take, List.length_nil] at this; omega
    generalize l.take i = xs at hne
    cases xs with
    | nil => exact absurd rfl hne
    | cons x r => simp [Lib.join_cons, Lib.joinTail]
theorem w80 {ws : List Str} {s : Str} {Kr Kp : C → List Ob → R} (hb : (Lib.join ws s).length ≤ 4294967296) (h : Kr (.d (.str (Lib.join ws s))) []) : Wp T Tryd.prog tt 80 [.d (.list 9 (dStr ws)), .d (.str s)] [] Kr Kp := by
  refine go (k := 80) (own := true) (cap := .deep) Tryd.func80 (by kernel_rfl) ?_
  (conv => whnf); repeat' (first | ((first | refine bdec ?_ ?_ | refine bnot ?_ ?_ | refine bsel_intro ?_ ?_ | skip) <;> intro hc <;> (try simp (disch := omega) only [nm, wrapI] at hc) <;> conv => whnf) | (refine .head _ rfl (by kernel_rfl) ?_; conv => whnf) | (refine And.intro ?_ ?_; (focus ((first | omega | decide | (simp (disch := omega) only [nm, wrapI] <;> omega) | (simp [strOf, nm] <;> omega) | rfl); done)); conv => whnf) | (rw [vv]; conv => whnf))
  refine loopOf (fun i : Nat => ⟨[(0, .d (.list 9 (dStr ws))), (1, .d (.str s)), (5, .d (.str (Lib.join (ws.take i) s))), (6, .d (.int .i64 (i : Int)))], []⟩) (fun i => i ≤ ws.length) (fun i => ws.length - i) 0 (by simp [Lib.join_nil]) (by omega) ?_
  intro i I hi rec
  have h1 := join_le ws s (i + 1)
  have h2 : i < ws.length → (0 < i → (Lib.join (ws.take i) s).length + s.length + (ws[i]?.getD []).length ≤ 4294967296) ∧ (¬ 0 < i → (Lib.join (ws.take i) s).length + (ws[i]?.getD []).length ≤ 4294967296) := fun hi => by
    rw [join_snoc ws s i hi, List.length_append] at h1
    constructor <;> intro h0
    · rw [if_pos h0, List.length_append] at h1; omega
    · rw [if_neg h0] at h1; omega
  (conv => whnf); repeat' (first | ((first | refine bdec ?_ ?_ | refine bnot ?_ ?_ | refine bsel_intro ?_ ?_ | skip) <;> intro hc <;> (try simp (disch := omega) only [nm, wrapI] at hc) <;> conv => whnf) | (refine .head _ rfl (by kernel_rfl) ?_; conv => whnf) | (refine And.intro ?_ ?_; (focus ((first | omega | decide | (simp (disch := omega) only [nm, wrapI] <;> omega) | (simp [strOf, nm] <;> omega) | rfl); done)); conv => whnf) | (rw [vv]; conv => whnf))
  · refine eqI (rec (i + 1) (by omega) (by omega)) ?_
    rw [join_snoc ws s i (by omega), if_pos (by omega)]
    simp (disch := omega) only [nm, wrapS]
  · refine eqI (rec (i + 1) (by omega) (by omega)) ?_
    rw [join_snoc ws s i (by omega), if_neg (by omega)]
    simp (disch := omega) only [nm, wrapS]
  · rw [List.take_of_length_le (by omega)]; exact h
end Go.Proofs.SL
