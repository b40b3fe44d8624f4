/- Contracts of functions of this program, by the evaluator EN; part GF. No conditions but those that each theorem states. -/
import Derived.Test.YtekcghhacpllaaaDoorGA2
set_option linter.unusedVariables false
set_option linter.unusedSimpArgs false
set_option maxRecDepth 100000
set_option maxHeartbeats 8000000
namespace Go.Proofs.SL
open Go Go.Proofs Go.Proofs.EN Go.Proofs.VT
variable {T : Tabs}
/-! ### The words of a text: what stands between blanks -/
def wordsGo (cur : Str) : Str → List Str
  | [] => if cur.isEmpty then [] else [cur]
  | c :: r => if c.toNat = 32 then (if cur.isEmpty then wordsGo [] r else cur :: wordsGo [] r) else wordsGo (cur ++ [c]) r
def words (t : Str) : List Str := wordsGo [] t
theorem drop_consG {s : Str} {i : Nat} (h : i < s.length) : s.drop i = s[i]?.getD 0 :: s.drop (i + 1) := by
  rw [List.drop_eq_getElem_cons h]; simp [h]
theorem sl_snoc {t : Str} {s i : Nat} (hs : s ≤ i) (hi : i < t.length) : (t.take (i + 1)).drop s = (t.take i).drop s ++ [t[i]?.getD 0] := by
  rw [List.take_add_one, List.drop_append, List.length_take, show s - min i t.length = 0 by omega]
  simp [hi]
theorem sl_nil {t : Str} {s : Nat} : (t.take s).drop s = [] := by simp
theorem sl_ne {t : Str} {s i : Nat} (h : s < i) (hi : i ≤ t.length) : ((t.take i).drop s).isEmpty = false := by
  rw [List.isEmpty_eq_false_iff]
  intro hn
  have := congrArg List.length hn
  simp at this
  omega
def WP (t : Str) (a : Nat × Nat × List Str) : Prop :=
  a.2.1 ≤ a.1 ∧ a.2.2.length ≤ a.1 ∧ ((a.1 ≤ t.length ∧ a.2.2 ++ wordsGo ((t.take a.1).drop a.2.1) (t.drop a.1) = words t) ∨ (a.1 = t.length + 1 ∧ a.2.2 = words t))
theorem WP_end {t : Str} {s : Nat} {ws : List Str} (h : WP t (t.length, s, ws)) : words t = if s < t.length then ws ++ [(t.take t.length).drop s] else ws := by
  obtain ⟨h1, h2, h3 | h3⟩ := h
  · simp only at h1 h2 h3
    rw [List.drop_of_length_le (Nat.le_refl _), wordsGo] at h3
    rw [← h3.2]
    by_cases hs : s < t.length
    · rw [sl_ne hs (Nat.le_refl _), if_pos hs]; simp
    · obtain rfl : s = t.length := by omega
      simp
  · simp only at h3; omega
theorem WP_sp {t : Str} {s i : Nat} {ws : List Str} (h : WP t (i, s, ws)) (hi : i < t.length) (hc : (t[i]?.getD 0).toNat = 32) : WP t (i + 1, i + 1, if s < i then ws ++ [(t.take i).drop s] else ws) := by
  obtain ⟨h1, h2, h3 | h3⟩ := h
  · simp only at h1 h2 h3
    rw [drop_consG hi, wordsGo, if_pos hc] at h3
    refine ⟨Nat.le_refl _, ?_, .inl ⟨by show i + 1 ≤ t.length; omega, ?_⟩⟩
    · show (if s < i then ws ++ [(t.take i).drop s] else ws).length ≤ i + 1
      split <;> (try simp) <;> omega
    · simp only [sl_nil]
      rw [← h3.2]
      by_cases hs : s < i
      · rw [sl_ne hs (by omega), if_pos hs]; simp
      · obtain rfl : s = i := by omega
        simp
  · simp only at h3; omega
theorem WP_ch {t : Str} {s i : Nat} {ws : List Str} (h : WP t (i, s, ws)) (hi : i < t.length) (hc : ¬ (t[i]?.getD 0).toNat = 32) : WP t (i + 1, s, ws) := by
  obtain ⟨h1, h2, h3 | h3⟩ := h
  · simp only at h1 h2 h3
    rw [drop_consG hi, wordsGo, if_neg hc] at h3
    refine ⟨by simp only; omega, by simp only; omega, .inl ⟨by simp only; omega, ?_⟩⟩
    simp only
    rw [← h3.2, sl_snoc h1 hi]
  · simp only at h3; omega
theorem w79 {t : Str} {Kr Kp : C → List Ob → R} (ht : t.length ≤ 16777216) (h : Kr (.row 0) [.row 9 .deep 0 (dStr (words t))]) : Wp T Tryd.prog tt 79 [.d (.str t)] [] Kr Kp := by
  refine go (k := 79) (own := true) (cap := .deep) Tryd.func79 (by kernel_rfl) ?_
  (conv => whnf); repeat' (first | ((first | refine bdec ?_ ?_ | refine bnot ?_ ?_ | refine bsel_intro ?_ ?_ | skip) <;> intro hc <;> (try simp (disch := omega) only [nm, wrapI] at hc) <;> conv => whnf) | (refine .head _ rfl (by kernel_rfl) ?_; conv => whnf) | (refine And.intro ?_ ?_; (focus ((first | omega | decide | (simp (disch := omega) only [nm, wrapI] <;> omega) | (simp [strOf, nm] <;> omega) | rfl); done)); conv => whnf) | (rw [vv]; conv => whnf))
  refine loopOf (fun a : Nat × Nat × List Str => ⟨[(0, .d (.str t)), (3, .row 0), (4, .d (.int .i64 (a.2.1 : Int))), (5, .d (.int .i64 (a.1 : Int)))], [.row 9 .deep 0 (dStr a.2.2)]⟩) (WP t) (fun a => t.length + 2 - a.1) (0, 0, []) rfl ⟨by simp, by simp, .inl ⟨by simp, by simp [words]⟩⟩ ?_
  rintro ⟨i, s, ws⟩ I hW rec
  have hb := hW.1
  have hl := hW.2.1
  simp only at hb hl rec
  have hi : i ≤ t.length + 1 := by rcases hW.2.2 with h1 | h1 <;> simp only at h1 <;> omega
  have wr : IntKind.i64.wrap ((i : Int) + 1) = ((i + 1 : Nat) : Int) := by rw [wrapS (by omega)]
  (conv => whnf); repeat' (first | ((first | refine bdec ?_ ?_ | refine bnot ?_ ?_ | refine bsel_intro ?_ ?_ | skip) <;> intro hc <;> (try simp (disch := omega) only [nm, wrapI] at hc) <;> conv => whnf) | (refine .head _ rfl (by kernel_rfl) ?_; conv => whnf) | (refine And.intro ?_ ?_; (focus ((first | omega | decide | (simp (disch := omega) only [nm, wrapI] <;> omega) | (simp [strOf, nm] <;> omega) | rfl); done)); conv => whnf) | (rw [vv]; conv => whnf))
  · obtain rfl : i = t.length := by omega
    have := WP_end hW
    rw [if_pos (by omega)] at this
    refine eqI (rec (t.length + 1, t.length + 1, words t) ⟨Nat.le_refl _, by simp only [this, List.length_append, List.length_cons, List.length_nil]; omega, .inr ⟨rfl, rfl⟩⟩ (by simp only; omega)) ?_
    simp [wr, this, dStr]
  · obtain rfl : i = t.length := by omega
    have := WP_end hW
    rw [if_neg (by omega)] at this
    refine eqI (rec (t.length + 1, t.length + 1, words t) ⟨Nat.le_refl _, by simp only [this]; omega, .inr ⟨rfl, rfl⟩⟩ (by simp only; omega)) ?_
    simp [wr, this, dStr]
  · have := WP_sp hW (by omega) (by omega)
    rw [if_pos (by omega)] at this
    refine eqI (rec _ this (by simp only; omega)) ?_
    simp [wr, dStr]
  · have := WP_sp hW (by omega) (by omega)
    rw [if_neg (by omega)] at this
    refine eqI (rec _ this (by simp only; omega)) ?_
    simp [wr]
  · refine eqI (rec _ (WP_ch hW (by omega) (by omega)) (by simp only; omega)) ?_
    simp [wr]
  · rcases hW.2.2 with h1 | h1 <;> simp only at h1
    · omega
    · rw [h1.2]; exact h
end Go.Proofs.SL
