/- Contracts of functions of this program, by the evaluator EN; part GD. No conditions but those that each theorem states. -/
import Derived.Test.YtekcghhacpllaaaDoorGC
import Derived.Lib.AtoiAll
import Derived.Lib.TrimByte
set_option linter.unusedVariables false
set_option linter.unusedSimpArgs false
set_option maxRecDepth 100000
set_option maxHeartbeats 8000000
namespace Go.Proofs.SL
open Go Go.Proofs Go.Proofs.EN Go.Proofs.VT
variable {T : Tabs}
theorem numGo_bound : ∀ (s : Str) (i : Nat) (n r : Int), 0 ≤ n → n < 10 ^ i → i + s.length ≤ 18 → numGo n s = some r → 0 ≤ r ∧ r < 1000000000000000000
  | [], i, n, r, h0, h1, hl, h => by
    simp only [numGo, Option.some.injEq] at h
    subst h
    have := pow10_le (i := i) (by simpa using hl)
    exact ⟨h0, by omega⟩
  | c :: s, i, n, r, h0, h1, hl, h => by
    simp only [numGo] at h
    split at h
    · cases h
    · rename_i hc
      simp only [List.length_cons] at hl
      refine numGo_bound s (i + 1) _ r (by omega) ?_ (by omega) h
      rw [Int.pow_succ]
      omega
theorem num_bound {t : Str} {n : Int} (h : num t = some n) : -1000000000000000000 < n ∧ n < 1000000000000000000 := by
  have key : ∀ (s : Str) (sg : Int), sg = 1 ∨ sg = -1 → numS sg s = some n → -1000000000000000000 < n ∧ n < 1000000000000000000 := by
    intro s sg hs h
    unfold numS at h
    split at h
    · cases h
    · simp only [Option.map_eq_some_iff] at h
      obtain ⟨m, hm, rfl⟩ := h
      have := numGo_bound s 0 0 m (Int.le_refl _) (by simp) (by omega) hm
      rcases hs with rfl | rfl <;> omega
  unfold num at h
  split at h
  · exact key _ _ (.inr rfl) h
  · exact key _ _ (.inl rfl) h
theorem numGo_append : ∀ (xs ys : Str) (n : Int), numGo n (xs ++ ys) = (numGo n xs).bind fun m => numGo m ys
  | [], ys, n => rfl
  | c :: xs, ys, n => by
    simp only [List.cons_append, numGo]
    split
    · rfl
    · exact numGo_append xs ys _
theorem chr_nat {j : Nat} (h : j < 10) : (UInt8.ofNat (48 + j)).toNat = 48 + j := by
  rw [UInt8.toNat_ofNat']
  omega
theorem numGo_dec : ∀ (f u : Nat), u < f → numGo 0 (Lib.decDigits u) = some (u : Int) := by
  intro f
  induction f with
  | zero => intro u h; omega
  | succ f ih =>
    intro u h
    by_cases h1 : u < 10
    · rw [Lib.decDigits_one h1]
      simp only [numGo, chr_nat h1]
      rw [if_neg (by omega)]
      congr 1
      omega
    · rw [Lib.decDigits, dif_neg h1, numGo_append, ih (u / 10) (by omega)]
      simp only [Option.bind_some, numGo, chr_nat (Nat.mod_lt u (by omega : 10 > 0))]
      rw [if_neg (by omega)]
      congr 1
      omega
theorem parse_append : ∀ (xs ys : Str) (n m : Nat), Lib.parseUint10 n xs = .ok m → Lib.parseUint10 n (xs ++ ys) = Lib.parseUint10 m ys
  | [], ys, n, m, h => by
    simp only [Lib.parseUint10, Lib.NumEnd.ok.injEq] at h
    subst h; rfl
  | c :: xs, ys, n, m, h => by
    simp only [List.cons_append, Lib.parseUint10] at h ⊢
    split at h
    · split at h
      · cases h
      · split at h
        · cases h
        · rename_i h1 h2 h3
          rw [if_pos h1, if_neg h2, if_neg h3]
          exact parse_append xs ys _ m h
    · cases h
theorem parse_dec : ∀ (f u : Nat), u < f → u < 1000000000000000000 → Lib.parseUint10 0 (Lib.decDigits u) = .ok u := by
  intro f
  induction f with
  | zero => intro u h; omega
  | succ f ih =>
    intro u h hb
    by_cases h1 : u < 10
    · rw [Lib.decDigits_one h1]
      simp only [Lib.parseUint10, chr_nat h1]
      rw [if_pos (by omega), if_neg (by omega), if_neg (by omega)]
      congr 1
      omega
    · rw [Lib.decDigits, dif_neg h1, parse_append _ _ _ _ (ih (u / 10) (by omega) (by omega))]
      simp only [Lib.parseUint10, chr_nat (Nat.mod_lt u (by omega : 10 > 0))]
      rw [if_pos (by omega), if_neg (by omega), if_neg (by omega)]
      congr 1
      omega
theorem dec_head : ∀ (f u : Nat), u < f → ∃ c r, Lib.decDigits u = c :: r ∧ 48 ≤ c.toNat ∧ c.toNat ≤ 57 ∧ (0 < u → c.toNat ≠ 48) ∧ (u = 0 → r = []) := by
  intro f
  induction f with
  | zero => intro u h; omega
  | succ f ih =>
    intro u h
    by_cases h1 : u < 10
    · refine ⟨UInt8.ofNat (48 + u), [], Lib.decDigits_one h1, ?_⟩
      rw [chr_nat h1]
      exact ⟨by omega, by omega, by omega, fun _ => rfl⟩
    · obtain ⟨c, r, h2, h3, h4, h5, h6⟩ := ih (u / 10) (by omega)
      refine ⟨c, r ++ [UInt8.ofNat (48 + u % 10)], ?_, h3, h4, fun _ => h5 (by omega), by omega⟩
      rw [Lib.decDigits, dif_neg h1, h2]
      rfl
theorem dec_small {u : Nat} (h : (Lib.decDigits u).length ≤ 18) : u < 1000000000000000000 := by
  rw [Lib.decDigits_length] at h
  have h1 := Lib.lt_pow_nDigits u
  have h2 : (10 : Nat) ^ Lib.nDigits u ≤ 10 ^ 18 := Nat.pow_le_pow_right (by omega) h
  have h3 : (10 : Nat) ^ 18 = 1000000000000000000 := by decide
  omega
theorem itoa_neg {n : Int} (h : n < 0) : Lib.itoa n = 45 :: Lib.decDigits n.natAbs := by unfold Lib.itoa; rw [if_pos h]
theorem itoa_pos {n : Int} (h : ¬ n < 0) : Lib.itoa n = Lib.decDigits n.natAbs := by
  unfold Lib.itoa; rw [if_neg h]
  have : n.toNat = n.natAbs := by omega
  rw [this]
theorem trim_itoa (n : Int) : Lib.trimPrefix (Lib.itoa n) [45] = Lib.decDigits n.natAbs := by
  unfold Lib.trimPrefix Lib.hasPrefix
  by_cases h : n < 0
  · rw [itoa_neg h]; simp
  · rw [itoa_pos h]
    obtain ⟨c, r, h2, h3, h4, _⟩ := dec_head (n.natAbs + 1) n.natAbs (by omega)
    rw [h2]
    have hc : (45 : UInt8) ≠ c := by intro e; rw [← e] at h3; simp at h3
    simp [List.isPrefixOf, hc]
theorem num_itoa {n : Int} (hl : (Lib.decDigits n.natAbs).length ≤ 18) : num (Lib.itoa n) = some n := by
  obtain ⟨c, r, h2, h3, h4, h5, h6⟩ := dec_head (n.natAbs + 1) n.natAbs (by omega)
  have hg := numGo_dec (n.natAbs + 1) n.natAbs (by omega)
  by_cases h : n < 0
  · have := h5 (by omega)
    rw [itoa_neg h, num, if_pos ⟨by simp, by simp⟩, List.drop_one, List.tail_cons, numS, if_neg, hg]
    · simp only [Option.map_some]; congr 1; omega
    · rw [h2] at hl ⊢
      simp only [List.length_cons, List.getD_cons_zero] at hl ⊢
      omega
  · rw [itoa_pos h, num, if_neg, numS, if_neg, hg]
    · simp only [Option.map_some]; congr 1; omega
    · rw [h2] at hl ⊢
      simp only [List.length_cons, List.getD_cons_zero] at hl ⊢
      by_cases h0 : 0 < n.natAbs
      · have := h5 h0; omega
      · rw [h6 (by omega)]; simp
    · rw [h2]; simp only [List.getD_cons_zero]; omega
theorem atoi_itoa {n : Int} (hl : (Lib.decDigits n.natAbs).length ≤ 18) : Lib.atoiAll (Lib.itoa n) = .ok n := by
  have hu := dec_small hl
  obtain ⟨c, r, h2, h3, h4, h5, h6⟩ := dec_head (n.natAbs + 1) n.natAbs (by omega)
  have hp : Lib.parseMag (Lib.decDigits n.natAbs) = .ok n.natAbs := by
    unfold Lib.parseMag
    rw [if_neg (by rw [h2]; simp), parse_dec (n.natAbs + 1) n.natAbs (by omega) hu]
  by_cases h : n < 0
  · rw [itoa_neg h]
    unfold Lib.atoiAll
    have e45 : (45 : UInt8).toNat = 45 := rfl
    simp only [e45, or_true, if_true, hp]
    rw [if_neg (by simp), if_neg (by simp; omega)]
    congr 1
    first
      | omega
      | (simp; omega)
      | (rw [if_pos trivial]; omega)
  · rw [itoa_pos h, h2]
    unfold Lib.atoiAll
    simp only
    rw [if_neg (by omega), ← h2, hp]
    simp only
    rw [if_neg (by omega), if_neg (by omega), if_neg (by omega)]
    congr 1
    omega
/-- The number of 32 bits that a text is. -/
def intO (t : Str) : Option Int := match num t with
  | some n => if Lib.itoa n = t ∧ -2147483648 ≤ n ∧ n ≤ 2147483647 then some n else none
  | none => none
theorem intO_bound {t : Str} {n : Int} (h : intO t = some n) : -2147483648 ≤ n ∧ n ≤ 2147483647 := by
  unfold intO at h
  split at h
  · split at h
    · cases h; omega
    · cases h
  · cases h

theorem dec_len : ∀ (k u : Nat), u < 10 ^ (k + 1) → (Lib.decDigits u).length ≤ k + 1 := by
  intro k
  induction k with
  | zero => intro u h; rw [Lib.decDigits_one (by simpa using h)]; simp
  | succ k ih =>
    intro u h
    by_cases h1 : u < 10
    · rw [Lib.decDigits_one h1]; simp
    · rw [Lib.decDigits, dif_neg h1, List.length_append]
      have := ih (u / 10) (by rw [Nat.pow_succ] at h; omega)
      simp only [List.length_cons, List.length_nil]; omega
theorem dec_small32 {n : Int} (h : -2147483648 ≤ n ∧ n ≤ 2147483647) : (Lib.decDigits n.natAbs).length ≤ 18 := by
  have := dec_len 9 n.natAbs (by omega)
  omega
theorem intO_itoa {n : Int} (h : -2147483648 ≤ n ∧ n ≤ 2147483647) : intO (Lib.itoa n) = some n := by
  unfold intO
  rw [num_itoa (dec_small32 h)]
  simp [h]
theorem intO_some {t : Str} {n : Int} (h : intO t = some n) : t = Lib.itoa n := by
  unfold intO at h
  split at h
  · split at h
    · rename_i h1; cases h; exact h1.1.symm
    · cases h
  · cases h
/-- What is asked of a number that is handed back beside whether there is one. -/
def isV (o : Option Int) (v : Int) : Prop := ∀ n, o = some n → v = n
theorem krT {Kr : C → List Ob → R} {v : C} {b c : Bool} (h : Kr (.tuple [v, .d (.bool b)]) []) (e : b = c) : Kr (.tuple [v, .d (.bool c)]) [] := by rw [← e]; exact h
theorem w82 {t : Str} {Kr Kp : C → List Ob → R} (h : ∀ v, isV (intO t) v → Kr (.tuple [.d (.int .i64 v), .d (.bool (intO t).isSome)]) []) : Wp T Tryd.prog tt 82 [.d (.str t)] [] Kr Kp := by
  refine go (k := 82) (own := true) (cap := .deep) Tryd.func82 (by kernel_rfl) ?_
  refine w110 ?_
  cases hn : num t with
  | none =>
    (conv => whnf); repeat' (first | ((first | refine bdec ?_ ?_ | refine bnot ?_ ?_ | refine bsel_intro ?_ ?_ | skip) <;> intro hc <;> (try simp (disch := omega) only [nm, wrapI] at hc) <;> conv => whnf) | (refine .head _ rfl (by kernel_rfl) ?_; conv => whnf) | (refine And.intro ?_ ?_; (focus ((first | omega | decide | (simp (disch := omega) only [nm, wrapI] <;> omega) | (simp [strOf, nm] <;> omega) | rfl); done)); conv => whnf) | (rw [vv]; conv => whnf))
    have := h 0 (by simp [isV, intO, hn])
    simpa [intO, hn] using this
  | some n =>
    have hb := num_bound hn
    conv => whnf
    refine wpArgs (xs' := [.d (.int .i64 n)]) rfl (w52 (by omega) ?_)
    (conv => whnf); repeat' (first | ((first | refine bdec ?_ ?_ | refine bnot ?_ ?_ | refine bsel_intro ?_ ?_ | skip) <;> intro hc <;> (try simp (disch := omega) only [nm, wrapI] at hc) <;> conv => whnf) | (refine .head _ rfl (by kernel_rfl) ?_; conv => whnf) | (refine w90 ?_; conv => whnf) | (apply pcall; (focus (intro _ _ hk; first | exact w90 hk)); conv => whnf) | (refine And.intro ?_ ?_; (focus ((first | omega | decide | (simp (disch := omega) only [nm, wrapI] <;> omega) | (simp [strOf, nm] <;> omega) | rfl); done)); conv => whnf) | (rw [vv]; conv => whnf))
    all_goals
      refine krT (h n fun m hm => ?_) ?_
      · unfold intO at hm; rw [hn] at hm; simp only at hm; split at hm <;> simp_all
      · simp only [intO, hn]; split <;> simp_all [inB]
end Go.Proofs.SL
