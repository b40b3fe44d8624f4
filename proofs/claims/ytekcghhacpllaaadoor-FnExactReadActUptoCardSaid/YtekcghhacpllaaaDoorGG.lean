/- Contracts of functions of this program, by the evaluator EN; part GG. No conditions but those that each theorem states. -/
import Derived.Test.YtekcghhacpllaaaDoorGF
import Derived.Lib.SplitLaws
import Derived.Lib.Join
set_option linter.unusedVariables false
set_option linter.unusedSimpArgs false
set_option maxRecDepth 100000
set_option maxHeartbeats 8000000
namespace Go.Proofs.SL
open Go Go.Proofs Go.Proofs.EN Go.Proofs.VT
/-! ### A text cut at a byte -/
def cutGo (b : UInt8) (cur : Str) : Str → List Str
  | [] => [cur]
  | c :: r => if c = b then cur :: cutGo b [] r else cutGo b (cur ++ [c]) r
def hdA (p : Str) : List Str → List Str
  | [] => []
  | x :: r => (p ++ x) :: r
theorem cutGo_hd (b : UInt8) : ∀ (s cur : Str), cutGo b cur s = hdA cur (cutGo b [] s)
  | [], cur => by simp [cutGo, hdA]
  | c :: s, cur => by
    by_cases h : c = b
    · simp [cutGo, hdA, h]
    · rw [cutGo, if_neg h, cutGo_hd b s (cur ++ [c]), cutGo, if_neg h, cutGo_hd b s ([] ++ [c])]
      cases cutGo b [] s with
      | nil => rfl
      | cons x r => simp [hdA]
theorem splitK_cut (b : UInt8) : ∀ (s : Str) (k : Nat), s.count b = k → Lib.splitK [b] 0 k s = cutGo b [] s
  | [], k, h => by
    obtain rfl : 0 = k := by simpa using h
    rfl
  | c :: s, k, h => by
    by_cases hc : c = b
    · subst hc
      rw [List.count_cons_self] at h
      obtain ⟨k, rfl⟩ : ∃ n, k = n + 1 := ⟨s.count c, h.symm⟩
      have hix : Lib.index (c :: s) [c] = 0 := by rw [Lib.index]; simp [List.isPrefixOf]
      rw [Lib.splitK, hix, cutGo, if_pos rfl, ← splitK_cut c s k (by omega)]
      simp
    · rw [List.count_cons_of_ne hc] at h
      rw [cutGo, if_neg hc, cutGo_hd, ← splitK_cut b s k h]
      have hp : ([b] : List UInt8).isPrefixOf (c :: s) = false := by simp [List.isPrefixOf, Ne.symm hc]
      have hix : Lib.index (c :: s) [b] = if Lib.index s [b] == -1 then -1 else Lib.index s [b] + 1 := by rw [Lib.index, hp]; simp
      cases k with
      | zero => rfl
      | succ k =>
        rw [Lib.splitK, Lib.splitK, hix]
        by_cases hm : Lib.index s [b] = -1
        · simp [hm, hdA]
        · have hge := Lib.index_ge s [b]
          have h1 : (Lib.index s [b] == -1) = false := by simp [hm]
          have h2 : (Lib.index s [b] + 1 == -1) = false := by rw [beq_eq_false_iff_ne]; omega
          simp only [h1, h2, Bool.false_eq_true, if_false]
          rw [show (Lib.index s [b] + 1).toNat = (Lib.index s [b]).toNat + 1 by omega]
          simp [hdA]
theorem words_cut : ∀ (s cur : Str), wordsGo cur s = (cutGo 32 cur s).filter (fun w => !decide (w = []))
  | [], cur => by cases cur <;> simp [wordsGo, cutGo]
  | c :: s, cur => by
    rw [wordsGo, cutGo]
    have e : c.toNat = 32 ↔ c = 32 := ⟨fun h => UInt8.toNat_inj.1 (by simpa using h), fun h => by rw [h]; rfl⟩
    by_cases h : c = 32
    · rw [if_pos (e.2 h), if_pos h]
      cases cur with
      | nil => simp [words_cut s []]
      | cons x r => simp [words_cut s []]
    · rw [if_neg (fun h' => h (e.1 h')), if_neg h, words_cut s _]
theorem cutGo_lens (b : UInt8) : ∀ (s cur : Str), Lib.lens (cutGo b cur s) + (cutGo b cur s).length = cur.length + s.length + 1
  | [], cur => by simp [cutGo, Lib.lens]
  | c :: s, cur => by
    rw [cutGo]
    split
    · have := cutGo_lens b s []
      simp only [Lib.lens, List.map_cons, List.sum_cons, List.length_cons, List.length_nil] at this ⊢
      omega
    · have := cutGo_lens b s (cur ++ [c])
      simp only [List.length_append, List.length_cons, List.length_nil] at this ⊢
      omega
theorem lens_mem : ∀ {ws : List Str} {w : Str}, w ∈ ws → w.length ≤ Lib.lens ws
  | x :: r, w, h => by
    have e : Lib.lens (x :: r) = x.length + Lib.lens r := by simp [Lib.lens]
    cases h with
    | head => omega
    | tail _ h => have := lens_mem h; omega
theorem words_mem {t w : Str} (h : w ∈ words t) : w.length ≤ t.length := by
  rw [words, words_cut] at h
  have h1 := lens_mem ((List.mem_filter.1 h).1)
  have h2 := cutGo_lens 32 t []
  have h3 : 0 < (cutGo 32 [] t).length := List.length_pos_of_mem ((List.mem_filter.1 h).1)
  simp only [List.length_nil] at h2
  omega
theorem words_len (t : Str) : (words t).length ≤ t.length + 1 := by
  rw [words, words_cut]
  have h1 := List.length_filter_le (fun w => !decide (w = [])) (cutGo 32 [] t)
  have h2 := cutGo_lens 32 t []
  simp only [List.length_nil] at h2
  omega
end Go.Proofs.SL
