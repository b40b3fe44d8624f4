/- Contracts of functions of this program, by the evaluator EN. No conditions but those that each theorem states. -/
import Derived.Test.YtekcghhacpllaaaGreatDoorLW
import Derived.Lib.AtoiAll
import Derived.Lib.TrimByte
import Derived.Test.YtekcghhacpllaaaGreatDoorLD
import Derived.Test.YtekcghhacpllaaaGreatDoorLE
set_option linter.unusedVariables false
set_option linter.unusedSimpArgs false
set_option maxRecDepth 100000
set_option maxHeartbeats 8000000
namespace Go.Proofs.SL
open Go Go.Proofs Go.Proofs.EN Go.Proofs.VT
variable {T : Tabs}
theorem numGo_bound : ∀ (s : Str) (i : Nat) (n r : Int), 0 ≤ n → n < 10 ^ i → i + s.length ≤ 18 → numGo n s = some r → 0 ≤ r ∧ r < 1000000000000000000
  | [], i, n, r, h0, h1, hl, h => by
    simp only [numGo, Option.some.injEq] at h
    subst h
    have := pow10_le (i := i) (by simpa using hl)
    exact ⟨h0, by omega⟩
  | c :: s, i, n, r, h0, h1, hl, h => by
    simp only [numGo] at h
    split at h
    · cases h
    · rename_i hc
      simp only [List.length_cons] at hl
      refine numGo_bound s (i + 1) _ r (by omega) ?_ (by omega) h
      rw [Int.pow_succ]
      omega
theorem num_bound {t : Str} {n : Int} (h : num t = some n) : -1000000000000000000 < n ∧ n < 1000000000000000000 := by
  have key : ∀ (s : Str) (sg : Int), sg = 1 ∨ sg = -1 → numS sg s = some n → -1000000000000000000 < n ∧ n < 1000000000000000000 := by
    intro s sg hs h
    unfold numS at h
    split at h
    · cases h
    · simp only [Option.map_eq_some_iff] at h
      obtain ⟨m, hm, rfl⟩ := h
      have := numGo_bound s 0 0 m (Int.le_refl _) (by simp) (by omega) hm
      rcases hs with rfl | rfl <;> omega
  unfold num at h
  split at h
  · exact key _ _ (.inr rfl) h
  · exact key _ _ (.inl rfl) h
theorem numGo_append : ∀ (xs ys : Str) (n : Int), numGo n (xs ++ ys) = (numGo n xs).bind fun m => numGo m ys
  | [], ys, n => rfl
  | c :: xs, ys, n => by
    simp only [List.cons_append, numGo]
    split
    · rfl
    · exact numGo_append xs ys _
theorem chr_nat {j : Nat} (h : j < 10) : (UInt8.ofNat (48 + j)).toNat = 48 + j := by
  rw [UInt8.toNat_ofNat']
  omega
theorem numGo_dec : ∀ (f u : Nat), u < f → numGo 0 (Lib.decDigits u) = some (u : Int) := by
  intro f
  induction f with
  | zero => intro u h; omega
  | succ f ih =>
    intro u h
    by_cases h1 : u < 10
    · rw [Lib.decDigits_one h1]
      simp only [numGo, chr_nat h1]
      rw [if_neg (by omega)]
      congr 1
      omega
    · rw [Lib.decDigits, dif_neg h1, numGo_append, ih (u / 10) (by omega)]
      simp only [Option.bind_some, numGo, chr_nat (Nat.mod_lt u (by omega : 10 > 0))]
      rw [if_neg (by omega)]
      congr 1
      omega
theorem parse_append : ∀ (xs ys : Str) (n m : Nat), Lib.parseUint10 n xs = .ok m → Lib.parseUint10 n (xs ++ ys) = Lib.parseUint10 m ys
  | [], ys, n, m, h => by
    simp only [Lib.parseUint10, Lib.NumEnd.ok.injEq] at h
    subst h; rfl
  | c :: xs, ys, n, m, h => by
    simp only [List.cons_append, Lib.parseUint10] at h ⊢
    split at h
    · split at h
      · cases h
      · split at h
        · cases h
        · rename_i h1 h2 h3
          rw [if_pos h1, if_neg h2, if_neg h3]
          exact parse_append xs ys _ m h
    · cases h
theorem parse_dec : ∀ (f u : Nat), u < f → u < 1000000000000000000 → Lib.parseUint10 0 (Lib.decDigits u) = .ok u := by
  intro f
  induction f with
  | zero => intro u h; omega
  | succ f ih =>
    intro u h hb
    by_cases h1 : u < 10
    · rw [Lib.decDigits_one h1]
      simp only [Lib.parseUint10, chr_nat h1]
      rw [if_pos (by omega), if_neg (by omega), if_neg (by omega)]
      congr 1
      omega
    · rw [Lib.decDigits, dif_neg h1, parse_append _ _ _ _ (ih (u / 10) (by omega) (by omega))]
      simp only [Lib.parseUint10, chr_nat (Nat.mod_lt u (by omega : 10 > 0))]
      rw [if_pos (by omega), if_neg (by omega), if_neg (by omega)]
      congr 1
      omega
theorem dec_head : ∀ (f u : Nat), u < f → ∃ c r, Lib.decDigits u = c :: r ∧ 48 ≤ c.toNat ∧ c.toNat ≤ 57 ∧ (0 < u → c.toNat ≠ 48) ∧ (u = 0 → r = []) := by
  intro f
  induction f with
  | zero => intro u h; omega
  | succ f ih =>
    intro u h
    by_cases h1 : u < 10
    · refine ⟨UInt8.ofNat (48 + u), [], Lib.decDigits_one h1, ?_⟩
      rw [chr_nat h1]
      exact ⟨by omega, by omega, by omega, fun _ => rfl⟩
    · obtain ⟨c, r, h2, h3, h4, h5, h6⟩ := ih (u / 10) (by omega)
      refine ⟨c, r ++ [UInt8.ofNat (48 + u % 10)], ?_, h3, h4, fun _ => h5 (by omega), by omega⟩
      rw [Lib.decDigits, dif_neg h1, h2]
      rfl
theorem dec_small {u : Nat} (h : (Lib.decDigits u).length ≤ 18) : u < 1000000000000000000 := by
  rw [Lib.decDigits_length] at h
  have h1 := Lib.lt_pow_nDigits u
  have h2 : (10 : Nat) ^ Lib.nDigits u ≤ 10 ^ 18 := Nat.pow_le_pow_right (by omega) h
  have h3 : (10 : Nat) ^ 18 = 1000000000000000000 := by decide
  omega
theorem itoa_neg {n : Int} (h : n < 0) : Lib.itoa n = 45 :: Lib.decDigits n.natAbs := by unfold Lib.itoa; rw [if_pos h]
theorem itoa_pos {n : Int} (h : ¬ n < 0) : Lib.itoa n = Lib.decDigits n.natAbs := by
  unfold Lib.itoa; rw [if_neg h]
  have : n.toNat = n.natAbs := by omega
  rw [this]
theorem trim_itoa (n : Int) : Lib.trimPrefix (Lib.itoa n) [45] = Lib.decDigits n.natAbs := by
  unfold Lib.trimPrefix Lib.hasPrefix
  by_cases h : n < 0
  · rw [itoa_neg h]; simp
  · rw [itoa_pos h]
    obtain ⟨c, r, h2, h3, h4, _⟩ := dec_head (n.natAbs + 1) n.natAbs (by omega)
    rw [h2]
    have hc : (45 : UInt8) ≠ c := by intro e; rw [← e] at h3; simp at h3
    simp [List.isPrefixOf, hc]
theorem num_itoa {n : Int} (hl : (Lib.decDigits n.natAbs).length ≤ 18) : num (Lib.itoa n) = some n := by
  obtain ⟨c, r, h2, h3, h4, h5, h6⟩ := dec_head (n.natAbs + 1) n.natAbs (by omega)
  have hg := numGo_dec (n.natAbs + 1) n.natAbs (by omega)
  by_cases h : n < 0
  · have := h5 (by omega)
    rw [itoa_neg h, num, if_pos ⟨by simp, by simp⟩, List.drop_one, List.tail_cons, numS, if_neg, hg]
    · simp only [Option.map_some]; congr 1; omega
    · rw [h2] at hl ⊢
      simp only [List.length_cons, List.getD_cons_zero] at hl ⊢
      omega
  · rw [itoa_pos h, num, if_neg, numS, if_neg, hg]
    · simp only [Option.map_some]; congr 1; omega
    · rw [h2] at hl ⊢
      simp only [List.length_cons, List.getD_cons_zero] at hl ⊢
      by_cases h0 : 0 < n.natAbs
      · have := h5 h0; omega
      · rw [h6 (by omega)]; simp
    · rw [h2]; simp only [List.getD_cons_zero]; omega
theorem atoi_itoa {n : Int} (hl : (Lib.decDigits n.natAbs).length ≤ 18) : Lib.atoiAll (Lib.itoa n) = .ok n := by
  have hu := dec_small hl
  obtain ⟨c, r, h2, h3, h4, h5, h6⟩ := dec_head (n.natAbs + 1) n.natAbs (by omega)
  have hp : Lib.parseMag (Lib.decDigits n.natAbs) = .ok n.natAbs := by
    unfold Lib.parseMag
    rw [if_neg (by rw [h2]; simp), parse_dec (n.natAbs + 1) n.natAbs (by omega) hu]
  by_cases h : n < 0
  · rw [itoa_neg h]
    unfold Lib.atoiAll
    have e45 : (45 : UInt8).toNat = 45 := rfl
    simp only [e45, or_true, if_true, hp]
    rw [if_neg (by simp), if_neg (by simp; omega)]
    congr 1
    first
      | omega
      | (simp; omega)
      | (rw [if_pos trivial]; omega)
  · rw [itoa_pos h, h2]
    unfold Lib.atoiAll
    simp only
    rw [if_neg (by omega), ← h2, hp]
    simp only
    rw [if_neg (by omega), if_neg (by omega), if_neg (by omega)]
    congr 1
    omega
/-- The number of 32 bits that a text is. -/
def intO (t : Str) : Option Int := match num t with
  | some n => if Lib.itoa n = t ∧ -2147483648 ≤ n ∧ n ≤ 2147483647 then some n else none
  | none => none
theorem intO_bound {t : Str} {n : Int} (h : intO t = some n) : -2147483648 ≤ n ∧ n ≤ 2147483647 := by
  unfold intO at h
  split at h
  · split at h
    · cases h; omega
    · cases h
  · cases h

theorem dec_len : ∀ (k u : Nat), u < 10 ^ (k + 1) → (Lib.decDigits u).length ≤ k + 1 := by
  intro k
  induction k with
  | zero => intro u h; rw [Lib.decDigits_one (by simpa using h)]; simp
  | succ k ih =>
    intro u h
    by_cases h1 : u < 10
    · rw [Lib.decDigits_one h1]; simp
    · rw [Lib.decDigits, dif_neg h1, List.length_append]
      have := ih (u / 10) (by rw [Nat.pow_succ] at h; omega)
      simp only [List.length_cons, List.length_nil]; omega
theorem dec_small32 {n : Int} (h : -2147483648 ≤ n ∧ n ≤ 2147483647) : (Lib.decDigits n.natAbs).length ≤ 18 := by
  have := dec_len 9 n.natAbs (by omega)
  omega
theorem intO_itoa {n : Int} (h : -2147483648 ≤ n ∧ n ≤ 2147483647) : intO (Lib.itoa n) = some n := by
  unfold intO
  rw [num_itoa (dec_small32 h)]
  simp [h]
theorem intO_some {t : Str} {n : Int} (h : intO t = some n) : t = Lib.itoa n := by
  unfold intO at h
  split at h
  · split at h
    · rename_i h1; cases h; exact h1.1.symm
    · cases h
  · cases h
/-- What is asked of a number that is handed back beside whether there is one. -/
def isV (o : Option Int) (v : Int) : Prop := ∀ n, o = some n → v = n
theorem krT {Kr : C → List Ob → R} {v : C} {b c : Bool} (h : Kr (.tuple [v, .d (.bool b)]) []) (e : b = c) : Kr (.tuple [v, .d (.bool c)]) [] := by rw [← e]; exact h
theorem w101 {t : Str} {Kr Kp : C → List Ob → R} (h : ∀ v, isV (intO t) v → Kr (.tuple [.d (.int .i64 v), .d (.bool (intO t).isSome)]) []) : Wp T Tryz.prog tt 101 [.d (.str t)] [] Kr Kp := by
  refine go (k := 101) (own := true) (cap := .deep) Tryz.func101 (by kernel_rfl) ?_
  refine w132 ?_
  cases hn : num t with
  | none =>
    (conv => whnf); repeat' (first | ((first | refine bdec ?_ ?_ | refine bnot ?_ ?_ | refine bsel_intro ?_ ?_ | skip) <;> intro hc <;> (try simp (disch := omega) only [nm, wrapI] at hc) <;> conv => whnf) | (refine .head _ rfl (by kernel_rfl) ?_; conv => whnf) | (refine And.intro ?_ ?_; (focus ((first | omega | decide | (simp (disch := omega) only [nm, wrapI] <;> omega) | (simp [strOf, nm] <;> omega) | exact Nat.le_of_ble_eq_true rfl | rfl); done)); conv => whnf) | (rw [vv]; conv => whnf) | (refine NilP.mk fun nb hnb => ?_; conv => whnf))
    have := h 0 (by simp [isV, intO, hn])
    simpa [intO, hn] using this
  | some n =>
    have hb := num_bound hn
    conv => whnf
    refine wpArgs (xs' := [.d (.int .i64 n)]) rfl (w94 (by omega) ?_)
    (conv => whnf); repeat' (first | ((first | refine bdec ?_ ?_ | refine bnot ?_ ?_ | refine bsel_intro ?_ ?_ | skip) <;> intro hc <;> (try simp (disch := omega) only [nm, wrapI] at hc) <;> conv => whnf) | (refine .head _ rfl (by kernel_rfl) ?_; conv => whnf) | (refine w133 ?_; conv => whnf) | (apply pcall; (focus (intro _ _ hk; first | exact w133 hk)); conv => whnf) | (refine And.intro ?_ ?_; (focus ((first | omega | decide | (simp (disch := omega) only [nm, wrapI] <;> omega) | (simp [strOf, nm] <;> omega) | exact Nat.le_of_ble_eq_true rfl | rfl); done)); conv => whnf) | (rw [vv]; conv => whnf) | (refine NilP.mk fun nb hnb => ?_; conv => whnf))
    all_goals
      refine krT (h n fun m hm => ?_) ?_
      · unfold intO at hm; rw [hn] at hm; simp only at hm; split at hm <;> simp_all
      · simp only [intO, hn]; split <;> simp_all [inB]
end Go.Proofs.SL
set_option linter.unusedVariables false
set_option linter.unusedSimpArgs false
set_option maxRecDepth 100000
set_option maxHeartbeats 8000000
namespace Go.Proofs.SL
open Go Go.Proofs Go.Proofs.EN Go.Proofs.VT
variable {T : Tabs}
/-! ### Tokens: that they come to an end -/
theorem w208 {c : Int} {Kr Kp : C → List Ob → R} (h : ∀ b, Kr (.d (.bool b)) []) : Wp T Tryz.prog tt 208 [.d (.int .u8 c)] [] Kr Kp := by
  refine go (k := 208) (own := true) (cap := .deep) Tryz.func208 (by kernel_rfl) ?_
  (conv => whnf); repeat' (first | ((first | refine bdec ?_ ?_ | refine bnot ?_ ?_ | refine bsel_intro ?_ ?_ | skip) <;> intro hc <;> (try simp (disch := omega) only [nm, dToks_len, dToks_0, dToks_1, dToks_2, Nat.reduceAdd, wrapI] at hc) <;> conv => whnf) | (refine .head _ rfl (by kernel_rfl) ?_; conv => whnf) | (refine And.intro ?_ ?_; (focus ((first | omega | decide | (simp (disch := omega) only [nm, dToks_len, dToks_0, dToks_1, dToks_2, Nat.reduceAdd, wrapI] <;> omega) | (simp [strOf, nm, dToks_len, dToks_0, dToks_1, dToks_2, Nat.reduceAdd] <;> omega) | exact Nat.le_of_ble_eq_true rfl | rfl); done)); conv => whnf) | (rw [vv]; conv => whnf) | (refine NilP.mk fun nb hnb => ?_; conv => whnf))
  all_goals exact h _
theorem w227 {t : Str} {Kr Kp : C → List Ob → R} (h : ∀ b, Kr (.d (.bool b)) []) : Wp T Tryz.prog tt 227 [.d (.str t)] [] Kr Kp := by
  refine go (k := 227) (own := true) (cap := .deep) Tryz.func227 (by kernel_rfl) ?_
  (conv => whnf); repeat' (first | ((first | refine bdec ?_ ?_ | refine bnot ?_ ?_ | refine bsel_intro ?_ ?_ | skip) <;> intro hc <;> (try simp (disch := omega) only [nm, dToks_len, dToks_0, dToks_1, dToks_2, Nat.reduceAdd, wrapI] at hc) <;> conv => whnf) | (refine .head _ rfl (by kernel_rfl) ?_; conv => whnf) | (refine And.intro ?_ ?_; (focus ((first | omega | decide | (simp (disch := omega) only [nm, dToks_len, dToks_0, dToks_1, dToks_2, Nat.reduceAdd, wrapI] <;> omega) | (simp [strOf, nm, dToks_len, dToks_0, dToks_1, dToks_2, Nat.reduceAdd] <;> omega) | exact Nat.le_of_ble_eq_true rfl | rfl); done)); conv => whnf) | (rw [vv]; conv => whnf) | (refine NilP.mk fun nb hnb => ?_; conv => whnf))
  all_goals exact h _
theorem w226 {t : Str} {a : Int} {Kr Kp : C → List Ob → R} (ha : 0 ≤ a ∧ a ≤ t.length) (ht : t.length ≤ 1000000) (h : ∀ e : Int, a ≤ e → e ≤ t.length → Kr (.d (.int .i64 e)) []) : Wp T Tryz.prog tt 226 [.d (.str t), .d (.int .i64 a)] [] Kr Kp := by
  refine go (k := 226) (own := true) (cap := .deep) Tryz.func226 (by kernel_rfl) ?_
  (conv => whnf); repeat' (first | ((first | refine bdec ?_ ?_ | refine bnot ?_ ?_ | refine bsel_intro ?_ ?_ | skip) <;> intro hc <;> (try simp (disch := omega) only [nm, dToks_len, dToks_0, dToks_1, dToks_2, Nat.reduceAdd, wrapI] at hc) <;> conv => whnf) | (refine .head _ rfl (by kernel_rfl) ?_; conv => whnf) | (refine And.intro ?_ ?_; (focus ((first | omega | decide | (simp (disch := omega) only [nm, dToks_len, dToks_0, dToks_1, dToks_2, Nat.reduceAdd, wrapI] <;> omega) | (simp [strOf, nm, dToks_len, dToks_0, dToks_1, dToks_2, Nat.reduceAdd] <;> omega) | exact Nat.le_of_ble_eq_true rfl | rfl); done)); conv => whnf) | (rw [vv]; conv => whnf) | (refine NilP.mk fun nb hnb => ?_; conv => whnf))
  refine loopOf (fun n : Nat => ⟨[(0, .d (.str t)), (1, .d (.int .i64 (a + n)))], []⟩) (fun n => a + n ≤ t.length) (fun n => t.length - n) 0 (by simp) (by omega) ?_
  intro n I hn rec
  (conv => whnf); repeat' (first | ((first | refine bdec ?_ ?_ | refine bnot ?_ ?_ | refine bsel_intro ?_ ?_ | skip) <;> intro hc <;> (try simp (disch := omega) only [nm, dToks_len, dToks_0, dToks_1, dToks_2, Nat.reduceAdd, wrapI] at hc) <;> conv => whnf) | (refine .head _ rfl (by kernel_rfl) ?_; conv => whnf) | (refine w114 ?_; conv => whnf) | (refine w115 ?_; conv => whnf) | (apply pcall; (focus (intro _ _ hk; first | exact w114 hk | exact w115 hk)); conv => whnf) | (refine And.intro ?_ ?_; (focus ((first | omega | decide | (simp (disch := omega) only [nm, dToks_len, dToks_0, dToks_1, dToks_2, Nat.reduceAdd, wrapI] <;> omega) | (simp [strOf, nm, dToks_len, dToks_0, dToks_1, dToks_2, Nat.reduceAdd] <;> omega) | exact Nat.le_of_ble_eq_true rfl | rfl); done)); conv => whnf) | (rw [vv]; conv => whnf) | (refine NilP.mk fun nb hnb => ?_; conv => whnf))
  all_goals first
    | exact h _ (by omega) (by omega)
    | (refine eqI (rec (n + 1) (by omega) (by omega)) ?_
       rw [wrapI (by omega) (by omega)]
       simp [Int.add_assoc]; done)
theorem nameB_pos {t : Str} (h : nameB t = true) : 1 ≤ t.length := by
  rcases Decidable.em (1 ≤ (t.length : Int) ∧ (t.length : Int) ≤ 40) with e | e
  · omega
  · rw [nameB_len e] at h; cases h
theorem w209 {t : Str} {a : Int} {Kr Kp : C → List Ob → R} (hd : ∀ c ∈ t, c.toNat ≠ 46) (ha : 0 ≤ a ∧ a < t.length) (ht : t.length ≤ 1000000) (h : ∀ (k n : Int) (s : Str) (e : Int) (b : Bool), (b = true → a < e) → a ≤ e → e ≤ a + 3 ∨ e ≤ t.length → Kr (.tuple [.agg [.d (.int .i64 k), .d (.int .i64 n), .d (.str s)], .d (.int .i64 e), .d (.bool b)]) []) : Wp T Tryz.prog tt 209 [.d (.str t), .d (.int .i64 a)] [] Kr Kp := by
  have hwa : IntKind.i64.wrap (a + 1) = a + 1 := wrapI (by omega) (by omega)
  have hn : ¬ (((t[a.toNat]?.getD 0).toNat : Int) = 46) := fun e => by
    have h1 : t[a.toNat]?.getD 0 = t[a.toNat]'(by omega) := by rw [List.getElem?_eq_getElem (by omega)]; rfl
    have := hd _ (List.getElem_mem (l := t) (n := a.toNat) (by omega))
    rw [← h1] at this; omega
  refine go (k := 209) (own := true) (cap := .deep) Tryz.func209 (by kernel_rfl) ?_
  (conv => whnf); repeat' (first | (exact absurd hc hn) | ((first | refine bdec ?_ ?_ | refine bnot ?_ ?_ | refine bsel_intro ?_ ?_ | skip) <;> intro hc <;> (try simp (disch := omega) only [nm, dToks_len, dToks_0, dToks_1, dToks_2, Nat.reduceAdd, wrapI] at hc) <;> conv => whnf) | (refine .head _ rfl (by kernel_rfl) ?_; conv => whnf) | (refine aheadAtB 209 (by kernel_rfl) (by kernel_rfl) ?_; conv => whnf) | (refine PAnd.mk ?_ ?_ <;> conv => whnf) | exact PTrue.mk | (refine .head _ rfl (by kernel_rfl) ?_; conv => whnf) | (rw [hwa]) | (refine w226 (by omega) ht (fun e0 he1 he2 => ?_) <;> conv => whnf) | (refine w114 ?_; conv => whnf) | (refine w115 ?_; conv => whnf) | (refine w31 ?_; conv => whnf) | (refine w101 (fun v0 hv0 => ?_) <;> conv => whnf) | (refine w227 (fun b0 => ?_) <;> conv => whnf) | (apply pcall; (focus (intro _ _ hk; first | exact w226 (by omega) ht (fun e0 he1 he2 => ?_) hk | exact w114 hk | exact w115 hk | exact w31 hk | exact w101 (fun v0 hv0 => ?_) hk | exact w227 (fun b0 => ?_) hk)); conv => whnf) | (refine And.intro ?_ ?_; (focus ((first | omega | decide | (simp (disch := omega) only [nm, dToks_len, dToks_0, dToks_1, dToks_2, Nat.reduceAdd, wrapI] <;> omega) | (simp [strOf, nm, dToks_len, dToks_0, dToks_1, dToks_2, Nat.reduceAdd] <;> omega) | exact Nat.le_of_ble_eq_true rfl | rfl); done)); conv => whnf) | (rw [vv]; conv => whnf) | (refine NilP.mk fun nb hnb => ?_; conv => whnf))
  all_goals first
    | exact h _ _ _ _ _ (fun e => by omega) (by omega) (by omega)
    | (refine h _ _ _ _ _ (fun e => ?_) (by omega) (by omega)
       have := nameB_pos e
       simp only [List.length_drop, List.length_take] at this
       omega)
end Go.Proofs.SL
/- Further plans of drawn regions. -/
namespace Go.Proofs.VT
open Go Go.Proofs Go.Proofs.EN
def plansF : LTree (LTree Plan) := (.node 62 (.node 18 (.free 1 (.free 2 (.more 0 (.more 3 (.more 4 (.free 5 (.more 6 (.free 7 .done) .stop)) .stop) .stop) (.more 3 (.more 0 (.more 4 (.free 5 (.more 6 (.free 7 .done) .stop)) .stop) (.more 4 (.free 5 (.more 0 (.more 6 (.free 7 .done) .stop) .stop)) .stop)) .stop)))) (.node 7 (.more 0 (.more 1 (.more 2 (.more 3 (.free 4 .done) .stop) .stop) .stop) (.more 1 (.more 0 (.more 2 (.more 3 (.free 4 .done) .stop) .stop) (.more 2 (.more 0 (.more 3 (.free 4 .done) .stop) .stop) .stop)) .stop)) .leaf .leaf) .leaf) (.node 60 (.node 12 (.free 1 (.free 2 (.more 0 (.more 3 (.more 4 (.free 5 (.more 6 (.free 7 .done) .stop)) .stop) .stop) (.more 3 (.more 0 (.more 4 (.free 5 (.more 6 (.free 7 .done) .stop)) .stop) (.more 4 (.free 5 (.more 0 (.more 6 (.free 7 .done) .stop) .stop)) .stop)) .stop)))) .leaf .leaf) .leaf .leaf) (.node 160 (.node 7 (.free 2 (.more 0 (.more 1 (.more 3 (.more 4 (.more 5 (.more 6 (.more 7 .done .stop) .stop) .stop) .stop) .stop) (.more 3 (.more 1 (.more 4 (.more 5 (.more 6 (.more 7 .done .stop) .stop) .stop) .stop) (.more 4 (.more 1 (.more 5 (.more 6 (.more 7 .done .stop) .stop) .stop) .stop) .stop)) .stop)) (.more 3 (.more 0 (.more 1 (.more 4 (.more 5 (.more 6 (.more 7 .done .stop) .stop) .stop) .stop) (.more 4 (.more 1 (.more 5 (.more 6 (.more 7 .done .stop) .stop) .stop) .stop) .stop)) (.more 4 (.more 0 (.more 1 (.more 5 (.more 6 (.more 7 .done .stop) .stop) .stop) .stop) .stop) .stop)) .stop))) .leaf .leaf) .leaf .leaf))
def planAtF (k id : Nat) : Plan := match plansF.find k with | some t => (match t.find id with | some p => p | none => .stop) | none => .stop
theorem anyAtF (k : Nat) {E : Env} {id : Nat} {ops : Array Oper} {s : St} {K : Ex → St → R} (h2 : Region.noSelect ops = true) (h3 : chk ops (planAtF k id) ops.size (Array.replicate ops.size false) true = true) (h : evalPlan E ops.toList K (planAtF k id) s) : DrawP E id ops s K := .any _ h2 h3 h
end Go.Proofs.VT
set_option linter.unusedVariables false
set_option linter.unusedSimpArgs false
set_option maxRecDepth 100000
set_option maxHeartbeats 8000000
namespace Go.Proofs.SL
open Go Go.Proofs Go.Proofs.EN Go.Proofs.VT
variable {T : Tabs}
theorem w182 {t : Str} {Kr Kp : C → List Ob → R} (hd : ∀ c ∈ t, c.toNat ≠ 46 ∧ c.toNat ≠ 35) (ht : t.length ≤ 1000000) (h : ∀ (tk : List Tok) (c : Int), tk.length ≤ 4000 → Kr (.tuple [.d (.list 74 (dToks tk)), .d (.int .i64 c)]) []) : Wp T Tryz.prog tt 182 [.d (.str t)] [] Kr Kp := by
  refine go (k := 182) (own := false) (cap := .deep) Tryz.func182 (by kernel_rfl) ?_
  (conv => whnf); repeat' (first | ((first | refine bdec ?_ ?_ | refine bnot ?_ ?_ | refine bsel_intro ?_ ?_ | skip) <;> intro hc <;> (try simp (disch := omega) only [nm, dQDefs_len, dToks_len, dToks_0, dToks_1, dToks_2, Nat.reduceAdd, wrapI] at hc) <;> conv => whnf) | (refine .head _ rfl (by kernel_rfl) ?_; conv => whnf) | (refine And.intro ?_ ?_; (focus ((first | omega | decide | (simp (disch := omega) only [nm, dQDefs_len, dToks_len, dToks_0, dToks_1, dToks_2, Nat.reduceAdd, wrapI] <;> omega) | (simp [strOf, nm, dQDefs_len, dToks_len, dToks_0, dToks_1, dToks_2, Nat.reduceAdd] <;> omega) | exact Nat.le_of_ble_eq_true rfl | rfl); done)); conv => whnf) | (rw [vv]; conv => whnf) | (refine NilP.mk fun nb hnb => ?_; conv => whnf))
  refine loopOf2 (fun (b : Int) (tk : List Tok) => ⟨[(0, .d (.str t)), (4, .row 0), (5, .d (.int .i64 b))], [.row 74 .deep 0 (dToks tk)]⟩) (fun b tk => 0 ≤ b ∧ b ≤ t.length + 3 ∧ tk.length ≤ 4000) (fun b _ => (t.length + 4 - b).toNat) 0 [] rfl ⟨by omega, by omega, by simp⟩ ?_
  intro b tk I ⟨h1, h2, h3⟩ rec
  have hn : b < t.length → ¬ (((t[b.toNat]?.getD 0).toNat : Int) = 35) := fun hlt e => by
    have h1 : t[b.toNat]?.getD 0 = t[b.toNat]'(by omega) := by rw [List.getElem?_eq_getElem (by omega)]; rfl
    have := (hd _ (List.getElem_mem (l := t) (n := b.toNat) (by omega))).2
    rw [← h1] at this; omega
  (conv => whnf); repeat' (first | (exact absurd hc (hn (by omega))) | ((first | refine bdec ?_ ?_ | refine bnot ?_ ?_ | refine bsel_intro ?_ ?_ | skip) <;> intro hc <;> (try simp (disch := omega) only [nm, dQDefs_len, dToks_len, dToks_0, dToks_1, dToks_2, Nat.reduceAdd, wrapI] at hc) <;> conv => whnf) | (refine .head _ rfl (by kernel_rfl) ?_; conv => whnf) | (refine aheadAtB 182 (by kernel_rfl) (by kernel_rfl) ?_; conv => whnf) | (refine PAnd.mk ?_ ?_ <;> conv => whnf) | exact PTrue.mk | (refine .head _ rfl (by kernel_rfl) ?_; conv => whnf) | (refine w208 (fun b0 => ?_) <;> conv => whnf) | (refine w209 (fun c hc => (hd c hc).1) (by omega) ht (fun k0 n0 s0 e0 b0 g1 g2 g3 => ?_) <;> conv => whnf) | (apply pcall; (focus (intro _ _ hk; first | exact w208 (fun b0 => ?_) hk | exact w209 (fun c hc => (hd c hc).1) (by omega) ht (fun k0 n0 s0 e0 b0 g1 g2 g3 => ?_) hk)); conv => whnf) | (refine And.intro ?_ ?_; (focus ((first | omega | decide | (simp (disch := omega) only [nm, dQDefs_len, dToks_len, dToks_0, dToks_1, dToks_2, Nat.reduceAdd, wrapI] <;> omega) | (simp [strOf, nm, dQDefs_len, dToks_len, dToks_0, dToks_1, dToks_2, Nat.reduceAdd] <;> omega) | exact Nat.le_of_ble_eq_true rfl | rfl); done)); conv => whnf) | (rw [vv]; conv => whnf) | (refine NilP.mk fun nb hnb => ?_; conv => whnf))
  · refine eqI (rec (b + 1) tk ⟨by omega, by omega, h3⟩ (by omega)) ?_
    rw [wrapI (by omega) (by omega)]
  · exact h [] _ (by simp)
  · exact h [] _ (by simp)
  · have := g1 ((Bool.not_eq_false' _).mp ‹(!_) = false›)
    refine eqI (rec e0 (tk ++ [(k0, n0, s0)]) ⟨by omega, by omega, by simp; omega⟩ (by omega)) ?_
    simp [dToks, dTok]
  · exact h tk _ h3
theorem loopOf4 {α β γ δ : Type} {step : St → (Ex → St → R) → R} {nm : St → Option St} {K : Ex → St → R} {s : St} (mk : α → β → γ → δ → St) (P : α → β → γ → δ → Prop) (μ : α → β → γ → δ → Nat) (a : α) (b : β) (c : γ) (d : δ) (e : s = mk a b c d) (h : P a b c d)
    (hs : ∀ a b c d (I : St → R), P a b c d → (∀ a' b' c' d', P a' b' c' d' → μ a' b' c' d' < μ a b c d → I (mk a' b' c' d')) → roundP step nm (mk a b c d) I K) : LoopP step nm s K :=
  loopOf (fun s : α × β × γ × δ => mk s.1 s.2.1 s.2.2.1 s.2.2.2) (fun s => P s.1 s.2.1 s.2.2.1 s.2.2.2) (fun s => μ s.1 s.2.1 s.2.2.1 s.2.2.2) (a, b, c, d) e h fun s I hp rec => hs s.1 s.2.1 s.2.2.1 s.2.2.2 I hp fun a' b' c' d' => rec (a', b', c', d')
theorem w160 {t : Str} {Kr Kp : C → List Ob → R} (hd : ∀ c ∈ t, c.toNat ≠ 46 ∧ c.toNat ≠ 35) (ht : t.length ≤ 1000000) (h : ∀ (d : QDoc) (c : Int), d = [] ∨ docB d = true → Kr (.tuple [cDoc d, .d (.int .i64 c)]) []) : Wp T Tryz.prog tt 160 [.d (.str t)] [] Kr Kp := by
  refine go (k := 160) (own := false) (cap := .deep) Tryz.func160 (by kernel_rfl) ?_
  (conv => whnf); repeat' (first | ((first | refine bdec ?_ ?_ | refine bnot ?_ ?_ | refine bsel_intro ?_ ?_ | skip) <;> intro hc <;> (try simp (disch := omega) only [nm, dQDefs_len, dToks_len, dToks_0, dToks_1, dToks_2, Nat.reduceAdd, wrapI] at hc) <;> conv => whnf) | (refine .head _ rfl (by kernel_rfl) ?_; conv => whnf) | (refine aheadAtB 160 (by kernel_rfl) (by kernel_rfl) ?_; conv => whnf) | (refine PAnd.mk ?_ ?_ <;> conv => whnf) | exact PTrue.mk | (refine .head _ rfl (by kernel_rfl) ?_; conv => whnf) | (refine w182 hd ht (fun tk c0 htk => ?_) <;> conv => whnf) | (apply pcall; (focus (intro _ _ hk; first | exact w182 hd ht (fun tk c0 htk => ?_) hk)); conv => whnf) | (refine And.intro ?_ ?_; (focus ((first | omega | decide | (simp (disch := omega) only [nm, dQDefs_len, dToks_len, dToks_0, dToks_1, dToks_2, Nat.reduceAdd, wrapI] <;> omega) | (simp [strOf, nm, dQDefs_len, dToks_len, dToks_0, dToks_1, dToks_2, Nat.reduceAdd] <;> omega) | exact Nat.le_of_ble_eq_true rfl | rfl); done)); conv => whnf) | (rw [vv]; conv => whnf) | (refine NilP.mk fun nb hnb => ?_; conv => whnf))
  · exact h [] _ (.inl rfl)
  · refine loopOf4 (fun (b : Int) (q : Bool) (p1 : Bool) (xs : QDoc) => ⟨[(2, .ref 0 0), (4, .d (.list 74 (dToks tk))), (6, .ref 1 0), (7, .ref 2 0)], [.box [.row 3], oQ tk b q p1, .box [.row 4], .row 192 .deep 0 [], .row 192 .deep 0 (dQDefs 222 237 201 xs)]⟩) (fun b q p1 xs => 0 ≤ b ∧ b ≤ 5000 ∧ (q = true → b ≤ tk.length) ∧ (xs.length : Int) + (if q then 0 else -1) ≤ b) (fun b q p1 xs => if q then (6000 - b).toNat else 0) 0 true false [] rfl ⟨by omega, by omega, fun _ => by omega, by simp⟩ ?_
    intro b q p1 xs I ⟨g1, g2, g3, g4⟩ rec
    have hlen : (dQDefs 222 237 201 xs).length = xs.length := by simp
    cases q
    · simp only [Bool.false_eq_true, if_false] at g4
      (conv => whnf); repeat' (first | ((first | refine bdec ?_ ?_ | refine bnot ?_ ?_ | refine bsel_intro ?_ ?_ | skip) <;> intro hc <;> (try simp (disch := omega) only [nm, dQDefs_len, dToks_len, dToks_0, dToks_1, dToks_2, Nat.reduceAdd, wrapI] at hc) <;> conv => whnf) | (refine anyAtF 160 (by kernel_rfl) (by kernel_rfl) ?_; conv => whnf) | (refine PAnd.mk ?_ ?_ <;> conv => whnf) | exact PTrue.mk | (refine .head _ rfl (by kernel_rfl) ?_; conv => whnf) | (refine w164 ?_; conv => whnf) | (apply pcall; (focus (intro _ _ hk; first | exact w164 hk)); conv => whnf) | (refine And.intro ?_ ?_; (focus ((first | omega | decide | (simp (disch := omega) only [nm, dQDefs_len, dToks_len, dToks_0, dToks_1, dToks_2, Nat.reduceAdd, wrapI] <;> omega) | (simp [strOf, nm, dQDefs_len, dToks_len, dToks_0, dToks_1, dToks_2, Nat.reduceAdd] <;> omega) | exact Nat.le_of_ble_eq_true rfl | rfl); done)); conv => whnf) | (rw [vv]; conv => whnf) | (refine NilP.mk fun nb hnb => ?_; conv => whnf))
      all_goals exact h [] _ (.inl rfl)
    · simp only [if_true] at g4
      have g3 := g3 rfl
      have key : ∀ (x : QDef) (a0 : Int) (o0 p0 : Bool), b ≤ a0 → a0 ≤ 5000 → (o0 = true → true = true ∧ b < a0 ∧ a0 ≤ tk.length) → I ⟨[(2, .ref 0 0), (4, .d (.list 74 (dToks tk))), (6, .ref 1 0), (7, .ref 2 0)], [.box [.row 3], oQ tk a0 o0 p0, .box [.row 4], .row 192 .deep 0 [], .row 192 .deep 0 (dQDefs 222 237 201 xs ++ [[.int .i64 x.1, .str x.2.1, .str x.2.2.1, .list 201 (dQSels 222 237 201 x.2.2.2)]])]⟩ := fun x a0 o0 p0 k1 k2 k3 => by
        refine eqI (rec a0 o0 p0 (xs ++ [x]) ⟨by omega, k2, fun e => (k3 e).2.2, ?_⟩ ?_) ?_
        · cases o0
          · simp only [List.length_append, List.length_cons, List.length_nil, Bool.false_eq_true, if_false]; omega
          · have := k3 rfl; simp only [List.length_append, List.length_cons, List.length_nil, if_true]; omega
        · cases o0
          · simp only [if_true, Bool.false_eq_true, if_false]; omega
          · have := k3 rfl; simp only [if_true]; omega
        · simp [dQDefs, dQDef]
      (conv => whnf); repeat' (first | ((first | refine bdec ?_ ?_ | refine bnot ?_ ?_ | refine bsel_intro ?_ ?_ | skip) <;> intro hc <;> (try simp (disch := omega) only [nm, dQDefs_len, dToks_len, dToks_0, dToks_1, dToks_2, Nat.reduceAdd, wrapI] at hc) <;> conv => whnf) | (refine anyAtF 160 (by kernel_rfl) (by kernel_rfl) ?_; conv => whnf) | (refine PAnd.mk ?_ ?_ <;> conv => whnf) | exact PTrue.mk | (refine .head _ rfl (by kernel_rfl) ?_; conv => whnf) | (refine w164 ?_; conv => whnf) | (refine w183 (by omega) (by omega) (fun x a0 o0 p0 k1 k2 k3 ver1 => ?_) <;> conv => whnf) | (apply pcall; (focus (intro _ _ hk; first | exact w164 hk | exact w183 (by omega) (by omega) (fun x a0 o0 p0 k1 k2 k3 ver1 => ?_) hk)); conv => whnf) | (refine And.intro ?_ ?_; (focus ((first | omega | decide | (simp (disch := omega) only [nm, dQDefs_len, dToks_len, dToks_0, dToks_1, dToks_2, Nat.reduceAdd, wrapI] <;> omega) | (simp [strOf, nm, dQDefs_len, dToks_len, dToks_0, dToks_1, dToks_2, Nat.reduceAdd] <;> omega) | exact Nat.le_of_ble_eq_true rfl | rfl); done)); conv => whnf) | (rw [vv]; conv => whnf) | (refine NilP.mk fun nb hnb => ?_; conv => whnf))
      all_goals first
        | exact key x a0 o0 p0 k1 k2 k3
        | exact h [] _ (.inl rfl)
        | exact h xs _ (.inr ((Bool.not_eq_false' _).mp hc))
end Go.Proofs.SL
set_option linter.unusedVariables false
set_option linter.unusedSimpArgs false
set_option maxRecDepth 100000
set_option maxHeartbeats 8000000
namespace Go.Proofs.SL
open Go Go.Proofs Go.Proofs.EN Go.Proofs.VT
variable {T : Tabs}
/-! ### A source of choices -/
def dBy (t : Str) : List (List D) := t.map fun b => [.int .u8 (b.toNat : Int)]
@[simp] theorem dBy_len (t : Str) : (dBy t).length = t.length := by simp [dBy]
theorem dBy_0 (t : Str) (i : Nat) : getI ((((dBy t)[i]?).getD [])[0]?.getD .z) = (((t[i]?).getD 0).toNat : Int) := by
  rw [dBy, List.getElem?_map]; cases t[i]? <;> rfl
theorem tmb {a b : Int} (h : 0 ≤ a) (hb : 0 < b) : 0 ≤ a.tmod b ∧ a.tmod b < b := by
  rw [Int.tmod_eq_emod_of_nonneg h]
  exact ⟨Int.emod_nonneg a (by omega), Int.emod_lt_of_pos a hb⟩
theorem byte_le (b : UInt8) : (0 : Int) ≤ (b.toNat : Int) ∧ (b.toNat : Int) ≤ 255 := by have := b.toNat_lt; omega
abbrev oS (t : Str) (a s : Int) : Ob := .box [.d (.list 5 (dBy t)), .d (.int .i64 a), .d (.int .i64 s)]
/-- A source stands well. -/
def okS (a s : Int) : Prop := 0 ≤ a ∧ a ≤ 1000000000000000 ∧ 0 ≤ s ∧ s < 2147483648
theorem w27 {t : Str} {Kr Kp : C → List Ob → R} (h : ∀ s, 0 ≤ s → s < 2147483648 → Kr (.ref 0 0) [oS t 0 s]) : Wp T Tryz.prog tt 27 [.d (.list 5 (dBy t))] [] Kr Kp := by
  refine go (k := 27) (own := true) (cap := .deep) Tryz.func27 (by kernel_rfl) ?_
  (conv => whnf); repeat' (first | ((first | refine bdec ?_ ?_ | refine bnot ?_ ?_ | refine bsel_intro ?_ ?_ | skip) <;> intro hc <;> (try simp (disch := omega) only [nm, dBy_len, dBy_0, wrapI] at hc) <;> conv => whnf) | (refine .head _ rfl (by kernel_rfl) ?_; conv => whnf) | (refine And.intro ?_ ?_; (focus ((first | omega | decide | (simp (disch := omega) only [nm, dBy_len, dBy_0, wrapI] <;> omega) | (simp [strOf, nm, dBy_len, dBy_0] <;> omega) | exact Nat.le_of_ble_eq_true rfl | rfl); done)); conv => whnf) | (rw [vv]; conv => whnf) | (refine NilP.mk fun nb hnb => ?_; conv => whnf))
  exact h _ (tmb (by omega) (by omega)).1 (Int.lt_trans (tmb (by omega) (by omega)).2 (by omega))
theorem w126 {t : Str} {a s : Int} {Kr Kp : C → List Ob → R} (hs : 0 ≤ a ∧ a ≤ 1000000000000100 ∧ 0 ≤ s ∧ s < 2147483648) (h : ∀ k s', 0 ≤ k → k ≤ 255 → 0 ≤ s' → s' < 2147483648 → Kr (.d (.int .i64 k)) [oS t (a + 1) s']) : Wp T Tryz.prog tt 126 [.ref 0 0] [oS t a s] Kr Kp := by
  obtain ⟨h1, h2, h3, h4⟩ := hs
  have hb := byte_le ((t[(a + 1 - 1).toNat]?).getD 0)
  refine go (k := 126) (own := true) (cap := .deep) Tryz.func126 (by kernel_rfl) ?_
  (conv => whnf); repeat' (first | ((first | refine bdec ?_ ?_ | refine bnot ?_ ?_ | refine bsel_intro ?_ ?_ | skip) <;> intro hc <;> (try simp (disch := omega) only [nm, dBy_len, dBy_0, wrapI] at hc) <;> conv => whnf) | (refine .head _ rfl (by kernel_rfl) ?_; conv => whnf) | (refine And.intro ?_ ?_; (focus ((first | omega | decide | (simp (disch := omega) only [nm, dBy_len, dBy_0, wrapI] <;> omega) | (simp [strOf, nm, dBy_len, dBy_0] <;> omega) | exact Nat.le_of_ble_eq_true rfl | rfl); done)); conv => whnf) | (rw [vv]; conv => whnf) | (refine NilP.mk fun nb hnb => ?_; conv => whnf))
  · simp (disch := omega) only [nm, dBy_len, dBy_0, wrapI]
    exact h _ _ hb.1 hb.2 (tmb (by omega) (by omega)).1 (tmb (by omega) (by omega)).2
  · simp (disch := omega) only [wrapI]
    exact h _ _ (by omega) (by omega) h3 h4
  · have hr := tmb (a := s * 1103515245 + 12345) (b := 2147483648) (by omega) (by omega)
    simp (disch := omega) only [wrapI]
    rw [Int.tdiv_eq_ediv_of_nonneg hr.1, wrapI (by omega) (by omega)]
    have hk := tmb (a := (s * 1103515245 + 12345).tmod 2147483648 / 65536) (b := 256) (by omega) (by omega)
    exact h _ _ hk.1 (by omega) hr.1 hr.2
/-- A choice out of so many, and what the source is then. -/
theorem w92 {t : Str} {a s n : Int} {Kr Kp : C → List Ob → R} (hs : okS a s) (hn : n ≤ 16777216) (h : ∀ k a' s', 0 ≤ k → (k < n ∨ k = 0 ∧ n ≤ 1) → a ≤ a' → a' ≤ a + 3 → 0 ≤ s' → s' < 2147483648 → Kr (.d (.int .i64 k)) [oS t a' s']) : Wp T Tryz.prog tt 92 [.ref 0 0, .d (.int .i64 n)] [oS t a s] Kr Kp := by
  have hs' := hs
  obtain ⟨h1, h2, h3, h4⟩ := hs'
  refine go (k := 92) (own := true) (cap := .deep) Tryz.func92 (by kernel_rfl) ?_
  (conv => whnf); repeat' (first | ((first | refine bdec ?_ ?_ | refine bnot ?_ ?_ | refine bsel_intro ?_ ?_ | skip) <;> intro hc <;> (try simp (disch := omega) only [nm, dBy_len, dBy_0, wrapI] at hc) <;> conv => whnf) | (refine .head _ rfl (by kernel_rfl) ?_; conv => whnf) | (refine w126 (by omega) fun k s' hk1 hk2 hs1 hs2 => ?_ <;> conv => whnf) | (apply pcall; (focus (intro _ _ hk; first | exact w126 (by omega) fun k s' hk1 hk2 hs1 hs2 => ?_ hk)); conv => whnf) | (refine And.intro ?_ ?_; (focus ((first | omega | decide | (simp (disch := omega) only [nm, dBy_len, dBy_0, wrapI] <;> omega) | (simp [strOf, nm, dBy_len, dBy_0] <;> omega) | exact Nat.le_of_ble_eq_true rfl | rfl); done)); conv => whnf) | (rw [vv]; conv => whnf) | (refine NilP.mk fun nb hnb => ?_; conv => whnf))
  · exact h _ _ _ (by omega) (.inr ⟨rfl, hc⟩) (by omega) (by omega) h3 h4
  · have hk := tmb (a := k) (b := n) (by omega) (by omega)
    exact h _ _ _ hk.1 (.inl hk.2) (by omega) (by omega) (by omega) (by omega)
  · simp (disch := omega) only [wrapI]
    refine h _ _ _ (tmb ?_ ?_).1 (.inl (tmb ?_ ?_).2) ?_ ?_ ?_ ?_ <;> omega
theorem w69 {t : Str} {a s n : Int} {Kr Kp : C → List Ob → R} (hs : okS a s) (hn : 1 ≤ n ∧ n ≤ 16777216) (h : ∀ b a' s', a ≤ a' → a' ≤ a + 3 → 0 ≤ s' → s' < 2147483648 → Kr (.d (.bool b)) [oS t a' s']) : Wp T Tryz.prog tt 69 [.ref 0 0, .d (.int .i64 n)] [oS t a s] Kr Kp := by
  refine go (k := 69) (own := true) (cap := .deep) Tryz.func69 (by kernel_rfl) ?_
  (conv => whnf); repeat' (first | ((first | refine bdec ?_ ?_ | refine bnot ?_ ?_ | refine bsel_intro ?_ ?_ | skip) <;> intro hc <;> (try simp (disch := omega) only [nm, dBy_len, dBy_0, wrapI] at hc) <;> conv => whnf) | (refine .head _ rfl (by kernel_rfl) ?_; conv => whnf) | (refine w92 hs (by omega) fun k a' s' k1 k2 a1 a2 s1 s2 => ?_ <;> conv => whnf) | (apply pcall; (focus (intro _ _ hk; first | exact w92 hs (by omega) fun k a' s' k1 k2 a1 a2 s1 s2 => ?_ hk)); conv => whnf) | (refine And.intro ?_ ?_; (focus ((first | omega | decide | (simp (disch := omega) only [nm, dBy_len, dBy_0, wrapI] <;> omega) | (simp [strOf, nm, dBy_len, dBy_0] <;> omega) | exact Nat.le_of_ble_eq_true rfl | rfl); done)); conv => whnf) | (rw [vv]; conv => whnf) | (refine NilP.mk fun nb hnb => ?_; conv => whnf))
  exact h _ _ _ a1 a2 s1 s2
/-- One of some texts. -/
theorem w70 {t : Str} {a s : Int} {ws : List Str} {Kr Kp : C → List Ob → R} (hs : okS a s) (hw : 0 < ws.length ∧ ws.length ≤ 1000) (h : ∀ w a' s', w ∈ ws → a ≤ a' → a' ≤ a + 3 → 0 ≤ s' → s' < 2147483648 → Kr (.d (.str w)) [oS t a' s']) : Wp T Tryz.prog tt 70 [.ref 0 0, .d (.list 9 (dStr ws))] [oS t a s] Kr Kp := by
  have hl := dStr_len ws
  refine go (k := 70) (own := true) (cap := .deep) Tryz.func70 (by kernel_rfl) ?_
  (conv => whnf); repeat' (first | ((first | refine bdec ?_ ?_ | refine bnot ?_ ?_ | refine bsel_intro ?_ ?_ | skip) <;> intro hc <;> (try simp (disch := omega) only [nm, dBy_len, dBy_0, wrapI] at hc) <;> conv => whnf) | (refine .head _ rfl (by kernel_rfl) ?_; conv => whnf) | (refine w92 hs (by omega) fun k a' s' k1 k2 a1 a2 s1 s2 => ?_ <;> conv => whnf) | (apply pcall; (focus (intro _ _ hk; first | exact w92 hs (by omega) fun k a' s' k1 k2 a1 a2 s1 s2 => ?_ hk)); conv => whnf) | (refine And.intro ?_ ?_; (focus ((first | omega | decide | (simp (disch := omega) only [nm, dBy_len, dBy_0, wrapI] <;> omega) | (simp [strOf, nm, dBy_len, dBy_0] <;> omega) | exact Nat.le_of_ble_eq_true rfl | rfl); done)); conv => whnf) | (rw [vv]; conv => whnf) | (refine NilP.mk fun nb hnb => ?_; conv => whnf))
  · omega
  · have hk : k.toNat < ws.length := by omega
    refine krS (h (ws[k.toNat]?.getD []) _ _ ?_ a1 a2 s1 s2) ?_
    · simp [hk]
    · simp only [nm, dBy_len, dBy_0]
end Go.Proofs.SL
