/- Contracts of functions of this program, by the evaluator EN; part KS. No conditions but those that each theorem states. -/
import Derived.Test.YtekcghhacpllaaaGreatDoorKH
set_option linter.unusedVariables false
set_option linter.unusedSimpArgs false
set_option maxRecDepth 100000
set_option maxHeartbeats 8000000
namespace Go.Proofs.SL
open Go Go.Proofs Go.Proofs.EN Go.Proofs.VT
variable {T : Tabs}
/-! ### A source of choices -/
def dBy (t : Str) : List (List D) := t.map fun b => [.int .u8 (b.toNat : Int)]
@[simp] theorem dBy_len (t : Str) : (dBy t).length = t.length := by simp [dBy]
theorem dBy_0 (t : Str) (i : Nat) : getI ((((dBy t)[i]?).getD [])[0]?.getD .z) = (((t[i]?).getD 0).toNat : Int) := by
  rw [dBy, List.getElem?_map]; cases t[i]? <;> rfl
theorem tmb {a b : Int} (h : 0 ≤ a) (hb : 0 < b) : 0 ≤ a.tmod b ∧ a.tmod b < b := by
  rw [Int.tmod_eq_emod_of_nonneg h]
  exact ⟨Int.emod_nonneg a (by omega), Int.emod_lt_of_pos a hb⟩
theorem byte_le (b : UInt8) : (0 : Int) ≤ (b.toNat : Int) ∧ (b.toNat : Int) ≤ 255 := by have := b.toNat_lt; omega
abbrev oS (t : Str) (a s : Int) : Ob := .box [.d (.list 5 (dBy t)), .d (.int .i64 a), .d (.int .i64 s)]
/-- A source stands well. -/
def okS (a s : Int) : Prop := 0 ≤ a ∧ a ≤ 1000000000000000 ∧ 0 ≤ s ∧ s < 2147483648
theorem w27 {t : Str} {Kr Kp : C → List Ob → R} (h : ∀ s, 0 ≤ s → s < 2147483648 → Kr (.ref 0 0) [oS t 0 s]) : Wp T Tryz.prog tt 27 [.d (.list 5 (dBy t))] [] Kr Kp := by
  refine go (k := 27) (own := true) (cap := .deep) Tryz.func27 (by kernel_rfl) ?_
  (conv => whnf); repeat' (first | ((first | refine bdec ?_ ?_ | refine bnot ?_ ?_ | refine bsel_intro ?_ ?_ | skip) <;> intro hc <;> (try simp (disch := omega) only [nm, dBy_len, dBy_0, wrapI] at hc) <;> conv => whnf) | (refine .head _ rfl (by kernel_rfl) ?_; conv => whnf) | (refine And.intro ?_ ?_; (focus ((first | omega | decide | exact Nat.le_of_ble_eq_true rfl | (simp (disch := omega) only [nm, dBy_len, dBy_0, wrapI] <;> omega) | (simp [strOf, nm, dBy_len, dBy_0] <;> omega) | rfl); done)); conv => whnf) | (rw [vv]; conv => whnf))
  exact h _ (tmb (by omega) (by omega)).1 (Int.lt_trans (tmb (by omega) (by omega)).2 (by omega))
theorem w126 {t : Str} {a s : Int} {Kr Kp : C → List Ob → R} (hs : 0 ≤ a ∧ a ≤ 1000000000000100 ∧ 0 ≤ s ∧ s < 2147483648) (h : ∀ k s', 0 ≤ k → k ≤ 255 → 0 ≤ s' → s' < 2147483648 → Kr (.d (.int .i64 k)) [oS t (a + 1) s']) : Wp T Tryz.prog tt 126 [.ref 0 0] [oS t a s] Kr Kp := by
  obtain ⟨h1, h2, h3, h4⟩ := hs
  have hb := byte_le ((t[(a + 1 - 1).toNat]?).getD 0)
  refine go (k := 126) (own := true) (cap := .deep) Tryz.func126 (by kernel_rfl) ?_
  (conv => whnf); repeat' (first | ((first | refine bdec ?_ ?_ | refine bnot ?_ ?_ | refine bsel_intro ?_ ?_ | skip) <;> intro hc <;> (try simp (disch := omega) only [nm, dBy_len, dBy_0, wrapI] at hc) <;> conv => whnf) | (refine .head _ rfl (by kernel_rfl) ?_; conv => whnf) | (refine And.intro ?_ ?_; (focus ((first | omega | decide | exact Nat.le_of_ble_eq_true rfl | (simp (disch := omega) only [nm, dBy_len, dBy_0, wrapI] <;> omega) | (simp [strOf, nm, dBy_len, dBy_0] <;> omega) | rfl); done)); conv => whnf) | (rw [vv]; conv => whnf))
  · simp (disch := omega) only [nm, dBy_len, dBy_0, wrapI]
    exact h _ _ hb.1 hb.2 (tmb (by omega) (by omega)).1 (tmb (by omega) (by omega)).2
  · simp (disch := omega) only [wrapI]
    exact h _ _ (by omega) (by omega) h3 h4
  · have hr := tmb (a := s * 1103515245 + 12345) (b := 2147483648) (by omega) (by omega)
    simp (disch := omega) only [wrapI]
    rw [Int.tdiv_eq_ediv_of_nonneg hr.1, wrapI (by omega) (by omega)]
    have hk := tmb (a := (s * 1103515245 + 12345).tmod 2147483648 / 65536) (b := 256) (by omega) (by omega)
    exact h _ _ hk.1 (by omega) hr.1 hr.2
/-- A choice out of so many, and what the source is then. -/
theorem w92 {t : Str} {a s n : Int} {Kr Kp : C → List Ob → R} (hs : okS a s) (hn : n ≤ 16777216) (h : ∀ k a' s', 0 ≤ k → (k < n ∨ k = 0 ∧ n ≤ 1) → a ≤ a' → a' ≤ a + 3 → 0 ≤ s' → s' < 2147483648 → Kr (.d (.int .i64 k)) [oS t a' s']) : Wp T Tryz.prog tt 92 [.ref 0 0, .d (.int .i64 n)] [oS t a s] Kr Kp := by
  have hs' := hs
  obtain ⟨h1, h2, h3, h4⟩ := hs'
  refine go (k := 92) (own := true) (cap := .deep) Tryz.func92 (by kernel_rfl) ?_
  (conv => whnf); repeat' (first | ((first | refine bdec ?_ ?_ | refine bnot ?_ ?_ | refine bsel_intro ?_ ?_ | skip) <;> intro hc <;> (try simp (disch := omega) only [nm, dBy_len, dBy_0, wrapI] at hc) <;> conv => whnf) | (refine .head _ rfl (by kernel_rfl) ?_; conv => whnf) | (refine w126 (by omega) fun k s' hk1 hk2 hs1 hs2 => ?_ <;> conv => whnf) | (apply pcall; (focus (intro _ _ hk; first | exact w126 (by omega) fun k s' hk1 hk2 hs1 hs2 => ?_ hk)); conv => whnf) | (refine And.intro ?_ ?_; (focus ((first | omega | decide | exact Nat.le_of_ble_eq_true rfl | (simp (disch := omega) only [nm, dBy_len, dBy_0, wrapI] <;> omega) | (simp [strOf, nm, dBy_len, dBy_0] <;> omega) | rfl); done)); conv => whnf) | (rw [vv]; conv => whnf))
  · exact h _ _ _ (by omega) (.inr ⟨rfl, hc⟩) (by omega) (by omega) h3 h4
  · have hk := tmb (a := k) (b := n) (by omega) (by omega)
    exact h _ _ _ hk.1 (.inl hk.2) (by omega) (by omega) (by omega) (by omega)
  · simp (disch := omega) only [wrapI]
    refine h _ _ _ (tmb ?_ ?_).1 (.inl (tmb ?_ ?_).2) ?_ ?_ ?_ ?_ <;> omega
theorem w69 {t : Str} {a s n : Int} {Kr Kp : C → List Ob → R} (hs : okS a s) (hn : 1 ≤ n ∧ n ≤ 16777216) (h : ∀ b a' s', a ≤ a' → a' ≤ a + 3 → 0 ≤ s' → s' < 2147483648 → Kr (.d (.bool b)) [oS t a' s']) : Wp T Tryz.prog tt 69 [.ref 0 0, .d (.int .i64 n)] [oS t a s] Kr Kp := by
  refine go (k := 69) (own := true) (cap := .deep) Tryz.func69 (by kernel_rfl) ?_
  (conv => whnf); repeat' (first | ((first | refine bdec ?_ ?_ | refine bnot ?_ ?_ | refine bsel_intro ?_ ?_ | skip) <;> intro hc <;> (try simp (disch := omega) only [nm, dBy_len, dBy_0, wrapI] at hc) <;> conv => whnf) | (refine .head _ rfl (by kernel_rfl) ?_; conv => whnf) | (refine w92 hs (by omega) fun k a' s' k1 k2 a1 a2 s1 s2 => ?_ <;> conv => whnf) | (apply pcall; (focus (intro _ _ hk; first | exact w92 hs (by omega) fun k a' s' k1 k2 a1 a2 s1 s2 => ?_ hk)); conv => whnf) | (refine And.intro ?_ ?_; (focus ((first | omega | decide | exact Nat.le_of_ble_eq_true rfl | (simp (disch := omega) only [nm, dBy_len, dBy_0, wrapI] <;> omega) | (simp [strOf, nm, dBy_len, dBy_0] <;> omega) | rfl); done)); conv => whnf) | (rw [vv]; conv => whnf))
  exact h _ _ _ a1 a2 s1 s2
/-- One of some texts. -/
theorem w70 {t : Str} {a s : Int} {ws : List Str} {Kr Kp : C → List Ob → R} (hs : okS a s) (hw : 0 < ws.length ∧ ws.length ≤ 1000) (h : ∀ w a' s', w ∈ ws → a ≤ a' → a' ≤ a + 3 → 0 ≤ s' → s' < 2147483648 → Kr (.d (.str w)) [oS t a' s']) : Wp T Tryz.prog tt 70 [.ref 0 0, .d (.list 9 (dStr ws))] [oS t a s] Kr Kp := by
  have hl := dStr_len ws
  refine go (k := 70) (own := true) (cap := .deep) Tryz.func70 (by kernel_rfl) ?_
  (conv => whnf); repeat' (first | ((first | refine bdec ?_ ?_ | refine bnot ?_ ?_ | refine bsel_intro ?_ ?_ | skip) <;> intro hc <;> (try simp (disch := omega) only [nm, dBy_len, dBy_0, wrapI] at hc) <;> conv => whnf) | (refine .head _ rfl (by kernel_rfl) ?_; conv => whnf) | (refine w92 hs (by omega) fun k a' s' k1 k2 a1 a2 s1 s2 => ?_ <;> conv => whnf) | (apply pcall; (focus (intro _ _ hk; first | exact w92 hs (by omega) fun k a' s' k1 k2 a1 a2 s1 s2 => ?_ hk)); conv => whnf) | (refine And.intro ?_ ?_; (focus ((first | omega | decide | exact Nat.le_of_ble_eq_true rfl | (simp (disch := omega) only [nm, dBy_len, dBy_0, wrapI] <;> omega) | (simp [strOf, nm, dBy_len, dBy_0] <;> omega) | rfl); done)); conv => whnf) | (rw [vv]; conv => whnf))
  · omega
  · have hk : k.toNat < ws.length := by omega
    refine krS (h (ws[k.toNat]?.getD []) _ _ ?_ a1 a2 s1 s2) ?_
    · simp [hk]
    · simp only [nm, dBy_len, dBy_0]
end Go.Proofs.SL
