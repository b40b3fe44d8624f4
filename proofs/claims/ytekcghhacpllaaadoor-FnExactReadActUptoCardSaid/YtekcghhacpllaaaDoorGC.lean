/- Contracts of functions of this program, by the evaluator EN; part GC. No conditions but those that each theorem states. -/
import Derived.Test.YtekcghhacpllaaaDoorGA2
import Derived.Lib.ItoaLen
set_option linter.unusedVariables false
set_option linter.unusedSimpArgs false
set_option maxRecDepth 100000
set_option maxHeartbeats 8000000
namespace Go.Proofs.SL
open Go Go.Proofs Go.Proofs.EN Go.Proofs.VT
variable {T : Tabs}
theorem itoa_len {n : Int} (h1 : -9223372036854775808 ≤ n ∧ n ≤ 9223372036854775807) : (Lib.itoa n).length ≤ 21 := by
  have := Lib.itoa_length_le n h1.1 h1.2
  omega
theorem w52a : ∀ (m : Nat) (n : Int), 2 * n.natAbs + (if n < 0 then 1 else 0) < m → -9223372036854775808 ≤ n ∧ n ≤ 9223372036854775807 → ∀ {Kr Kp : C → List Ob → R}, Kr (.d (.str (Lib.itoa n))) [] → Wp T Tryd.prog tt 52 [.d (.int .i64 n)] [] Kr Kp := by
  intro m
  induction m with
  | zero => intro n h; omega
  | succ m ih =>
    intro n hm hn Kr Kp h
    refine go (k := 52) (own := true) (cap := .deep) Tryd.func52 (by kernel_rfl) ?_
    (conv => whnf); repeat' (first | ((first | refine bdec ?_ ?_ | refine bnot ?_ ?_ | refine bsel_intro ?_ ?_ | skip) <;> intro hc <;> (try simp (disch := omega) only [nm, wrapI] at hc) <;> conv => whnf) | (refine .head _ rfl (by kernel_rfl) ?_; conv => whnf) | (refine And.intro ?_ ?_; (focus ((first | omega | decide | (simp (disch := omega) only [nm, wrapI] <;> omega) | (simp [strOf, nm] <;> omega) | rfl); done)); conv => whnf) | (rw [vv]; conv => whnf))
    · subst hc
      rw [show Lib.itoa (-9223372036854775808) = [45, 57, 50, 50, 51, 51, 55, 50, 48, 51, 54, 56, 53, 52, 55, 55, 53, 56, 48, 56] by simp [Lib.itoa, Lib.decDigits]] at h
      exact h
    · refine wpArgs (xs' := [.d (.int .i64 (-n))]) (by rw [wrapI (by omega) (by omega), Int.zero_sub]) (ih _ (by rw [if_neg (by omega)]; rw [if_pos hc] at hm; omega) (by omega) ?_)
      have hl := itoa_len (n := -n) (by omega)
      (conv => whnf); repeat' (first | ((first | refine bdec ?_ ?_ | refine bnot ?_ ?_ | refine bsel_intro ?_ ?_ | skip) <;> intro hc <;> (try simp (disch := omega) only [nm, wrapI] at hc) <;> conv => whnf) | (refine .head _ rfl (by kernel_rfl) ?_; conv => whnf) | (refine And.intro ?_ ?_; (focus ((first | omega | decide | (simp (disch := omega) only [nm, wrapI] <;> omega) | (simp [strOf, nm] <;> omega) | rfl); done)); conv => whnf) | (rw [vv]; conv => whnf))
      have e : Lib.itoa n = 45 :: Lib.itoa (-n) := by
        rw [Lib.itoa, if_pos hc, Lib.itoa, if_neg (by omega)]
        congr 1
        rw [show n.natAbs = (-n).toNat by omega]
      rw [e] at h
      exact h
    · have e : Lib.itoa n = [UInt8.ofNat (48 + n).toNat] := by
        rw [Lib.itoa, if_neg (by omega), Lib.decDigits, dif_pos (by omega), show 48 + n.toNat = (48 + n).toNat by omega]
      rw [e] at h
      simp only [strOf, List.map_cons, List.map_nil, List.getD_cons_zero, getI]
      rw [wrapI (by omega) (by omega), wrapU8 (by omega) (by omega)]
      exact h
    · have ed : n.tdiv 10 = n / 10 := Int.tdiv_eq_ediv_of_nonneg (by omega)
      have em : n.tmod 10 = n % 10 := Int.tmod_eq_emod_of_nonneg (by omega)
      have hl := itoa_len (n := n / 10) (by omega)
      rw [ed, wrapI (by omega) (by omega)]
      refine ⟨_, fun _ _ hk => ih _ (by rw [if_neg (by omega)]; rw [if_neg (by omega)] at hm; omega) (by omega) hk, ?_⟩
      (conv => whnf); repeat' (first | ((first | refine bdec ?_ ?_ | refine bnot ?_ ?_ | refine bsel_intro ?_ ?_ | skip) <;> intro hc <;> (try simp (disch := omega) only [nm, wrapI] at hc) <;> conv => whnf) | (refine .head _ rfl (by kernel_rfl) ?_; conv => whnf) | (refine And.intro ?_ ?_; (focus ((first | omega | decide | (simp (disch := omega) only [nm, wrapI] <;> omega) | (simp [strOf, nm] <;> omega) | rfl); done)); conv => whnf) | (rw [vv]; conv => whnf))
      have e : Lib.itoa n = Lib.itoa (n / 10) ++ [UInt8.ofNat (48 + n % 10).toNat] := by
        rw [Lib.itoa, if_neg (by omega), Lib.decDigits, dif_neg (by omega), Lib.itoa, if_neg (by omega), show (n / 10).toNat = n.toNat / 10 by omega, show (48 + n % 10).toNat = 48 + n.toNat % 10 by omega]
      rw [e] at h
      simp only [strOf, List.map_cons, List.map_nil, List.getD_cons_zero, getI]
      rw [em, wrapI (by omega) (by omega), wrapU8 (by omega) (by omega)]
      exact h
theorem w52 {n : Int} {Kr Kp : C → List Ob → R} (hn : -9223372036854775808 ≤ n ∧ n ≤ 9223372036854775807) (h : Kr (.d (.str (Lib.itoa n))) []) : Wp T Tryd.prog tt 52 [.d (.int .i64 n)] [] Kr Kp :=
  w52a _ n (Nat.lt_succ_self _) hn h
/-! ### Numbers -/
/-- The number that digits are, one behind another. -/
def numGo : Int → Str → Option Int
  | n, [] => some n
  | n, c :: r => if c.toNat < 48 ∨ 57 < c.toNat then none else numGo (n * 10 + (c.toNat : Int) - 48) r
def numS (sg : Int) (s : Str) : Option Int := if s.length = 0 ∨ 18 < s.length ∨ ((s.getD 0 0).toNat = 48 ∧ (1 < s.length ∨ sg < 0)) then none else (numGo 0 s).map (sg * ·)
def num (t : Str) : Option Int := if 0 < t.length ∧ (t.getD 0 0).toNat = 45 then numS (-1) (t.drop 1) else numS 1 t
theorem pow10_le {i : Nat} (h : i ≤ 18) : ((10 : Int) ^ i) ≤ 1000000000000000000 := by
  have h1 : (10 : Nat) ^ i ≤ 10 ^ 18 := Nat.pow_le_pow_right (by omega) h
  have h2 : (((10 : Nat) ^ i : Nat) : Int) ≤ ((10 ^ 18 : Nat) : Int) := Int.ofNat_le.2 h1
  simpa using h2
def KN (Kr : C → List Ob → R) (r : Option Int) : R := Kr (.tuple [.d (.int .i64 (r.getD 0)), .d (.bool r.isSome)]) []
theorem KN.no {Kr : C → List Ob → R} {r : Option Int} (h : KN Kr r) (e : r = none) : Kr (.tuple [.d (.int .i64 0), .d (.bool false)]) [] := by rw [e] at h; exact h
theorem KN.yes {Kr : C → List Ob → R} {r : Option Int} {n : Int} (h : KN Kr r) (e : r = some n) : Kr (.tuple [.d (.int .i64 n), .d (.bool true)]) [] := by rw [e] at h; exact h
def NP (t : Str) (a : Str × Int × Nat × Int) : Prop :=
  a.2.2.1 ≤ a.1.length ∧ a.1.length ≤ 18 ∧ 0 ≤ a.2.2.2 ∧ a.2.2.2 < 10 ^ a.2.2.1 ∧ num t = (numGo a.2.2.2 (a.1.drop a.2.2.1)).map (a.2.1 * ·) ∧ (a.2.1 = 1 ∨ a.2.1 = -1)
theorem drop_cons {s : Str} {i : Nat} (h : i < s.length) : s.drop i = s[i]?.getD 0 :: s.drop (i + 1) := by
  rw [List.drop_eq_getElem_cons h]; simp [h]
theorem numGo_no {n : Int} {c : UInt8} {r : Str} (h : (c.toNat : Int) < 48 ∨ 57 < (c.toNat : Int)) : numGo n (c :: r) = none := by
  rw [numGo, if_pos (by omega)]
theorem numGo_yes {n : Int} {c : UInt8} {r : Str} (h : ¬ (c.toNat : Int) < 48) (h2 : ¬ 57 < (c.toNat : Int)) : numGo n (c :: r) = numGo (n * 10 + (c.toNat : Int) - 48) r := by
  rw [numGo, if_neg (by omega)]
theorem w110 {t : Str} {Kr Kp : C → List Ob → R} (h : KN Kr (num t)) : Wp T Tryd.prog tt 110 [.d (.str t)] [] Kr Kp := by
  refine go (k := 110) (own := true) (cap := .deep) Tryd.func110 (by kernel_rfl) ?_
  (conv => whnf); repeat' (first | ((first | refine bdec ?_ ?_ | refine bnot ?_ ?_ | refine bsel_intro ?_ ?_ | skip) <;> intro hc <;> (try simp (disch := omega) only [nm, wrapI] at hc) <;> conv => whnf) | (refine .head _ rfl (by kernel_rfl) ?_; conv => whnf) | (refine And.intro ?_ ?_; (focus ((first | omega | decide | (simp (disch := omega) only [nm, wrapI] <;> omega) | (simp [strOf, nm] <;> omega) | rfl); done)); conv => whnf) | (rw [vv]; conv => whnf))
  any_goals (refine h.no ?_; simp only [num, numS, List.getD_eq_getElem?_getD, Int.reduceToNat, List.take_length, Int.toNat_natCast, List.length_drop] at *; repeat' split) <;> first | rfl | omega
  all_goals (first
    | refine loopOf (fun a : Str × Int × Nat × Int => ⟨[(0, .d (.str a.1)), (4, .d (.int .i64 a.2.1)), (5, .d (.int .i64 a.2.2.2)), (6, .d (.int .i64 (a.2.2.1 : Int)))], []⟩) (NP t) (fun a => a.1.length - a.2.2.1) (t, 1, 0, 0) rfl ⟨by simp, by simp only; omega, by simp, by simp, ?_, .inl rfl⟩ ?_
    | refine loopOf (fun a : Str × Int × Nat × Int => ⟨[(0, .d (.str a.1)), (4, .d (.int .i64 a.2.1)), (5, .d (.int .i64 a.2.2.2)), (6, .d (.int .i64 (a.2.2.1 : Int)))], []⟩) (NP t) (fun a => a.1.length - a.2.2.1) (t.drop 1, -1, 0, 0) (by simp) ⟨by simp, by simp only [Int.reduceToNat, List.take_length, List.length_drop] at *; omega, by simp, by simp, ?_, .inr rfl⟩ ?_)
  any_goals ((simp only [num, numS, List.getD_eq_getElem?_getD, Int.reduceToNat, List.take_length, Int.toNat_natCast, List.length_drop] at *; repeat' split) <;> first | rfl | omega)
  all_goals
    rintro ⟨s, sg, i, n⟩ I ⟨hi, h18, h0, hlt, hn, hsg⟩ rec
    simp only at hi h18 h0 hlt hn hsg rec
    have hp := pow10_le (i := i) (by omega)
    (conv => whnf); repeat' (first | ((first | refine bdec ?_ ?_ | refine bnot ?_ ?_ | refine bsel_intro ?_ ?_ | skip) <;> intro hc <;> (try simp (disch := omega) only [nm, wrapI] at hc) <;> conv => whnf) | (refine .head _ rfl (by kernel_rfl) ?_; conv => whnf) | (refine And.intro ?_ ?_; (focus ((first | omega | decide | (simp (disch := omega) only [nm, wrapI] <;> omega) | (simp [strOf, nm] <;> omega) | rfl); done)); conv => whnf) | (rw [vv]; conv => whnf))
    · refine h.no ?_
      rw [hn, drop_cons (by omega), numGo_no (by omega)]; rfl
    · refine h.no ?_
      rw [hn, drop_cons (by omega), numGo_no (by omega)]; rfl
    · have hp2 := pow10_le (i := i + 1) (by omega)
      rw [Int.pow_succ] at hp2
      have hc8 := UInt8.toNat_lt (s[i]?.getD 0)
      refine eqI (rec (s, sg, i + 1, n * 10 + ((s[i]?.getD 0).toNat : Int) - 48) ⟨by simp only; omega, h18, by simp only; omega, ?_, ?_, hsg⟩ (by simp only; omega)) ?_
      · simp only [Int.pow_succ]; omega
      · simp only; rw [hn, drop_cons (by omega), numGo_yes (by omega) (by omega)]
      · simp (disch := omega) only [nm, wrapI]; rfl
    · rw [show s.drop i = [] by rw [List.drop_eq_nil_iff]; omega, numGo] at hn
      have := h.yes hn
      rcases hsg with rfl | rfl <;> (simp (disch := omega) only [wrapI]; exact this)
end Go.Proofs.SL
