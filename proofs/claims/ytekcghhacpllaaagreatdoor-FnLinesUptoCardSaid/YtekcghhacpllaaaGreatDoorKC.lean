/- Contracts of functions of this program, by the evaluator EN. No conditions but those that each theorem states. -/
import Derived.Test.YtekcghhacpllaaaGreatDoorEHd
set_option linter.unusedVariables false
set_option linter.unusedSimpArgs false
set_option maxRecDepth 100000
set_option maxHeartbeats 8000000
namespace Go.Proofs.SL
open Go Go.Proofs Go.Proofs.EN Go.Proofs.VT
variable {T : Tabs}
/-! ### Places of names -/
def fnd (ks : List Str) (n : Str) : Int := match ks.findIdx? (fun k => decide (k = n)) with | some i => (i : Int) | none => -1
theorem fnd_yes {α : Type} {f : α → Str} {xs : List α} {n : Str} {i : Nat} {p : α} (hp : xs[i]? = some p) (h : f p = n) (h2 : ∀ j, j < i → ∀ q, xs[j]? = some q → f q ≠ n) : fnd (xs.map f) n = (i : Int) := by
  have : (xs.map f).findIdx? (fun k => decide (k = n)) = some i := by
    rw [List.findIdx?_eq_some_iff_getElem]
    obtain ⟨hi, he⟩ := List.getElem?_eq_some_iff.1 hp
    refine ⟨by simpa using hi, by simp [he, h], fun j hj => ?_⟩
    have := h2 j hj (xs[j]'(by omega)) (List.getElem?_eq_getElem (by omega))
    simpa using this
  rw [fnd, this]
theorem fnd_no {α : Type} {f : α → Str} {xs : List α} {n : Str} (h2 : ∀ j, j < xs.length → ∀ q, xs[j]? = some q → f q ≠ n) : fnd (xs.map f) n = -1 := by
  have : (xs.map f).findIdx? (fun k => decide (k = n)) = none := by
    rw [List.findIdx?_eq_none_iff]
    intro x hx
    obtain ⟨q, hq, rfl⟩ := List.mem_map.1 hx
    obtain ⟨j, hj⟩ := List.mem_iff_getElem?.1 hq
    have := h2 j (by rcases Nat.lt_or_ge j xs.length with h | h; exact h; rw [List.getElem?_eq_none h] at hj; cases hj) q hj
    simpa using this
  rw [fnd, this]
theorem fnd_bound {ks : List Str} {n : Str} : -1 ≤ fnd ks n ∧ fnd ks n < ks.length := by
  unfold fnd
  split
  · rename_i i h
    rw [List.findIdx?_eq_some_iff_getElem] at h
    obtain ⟨hi, _⟩ := h; omega
  · omega
theorem w30 {xs : List TypeDef} {n : Str} {Kr Kp : C → List Ob → R} (h : Kr (.d (.int .i64 (fnd (xs.map (·.1)) n))) []) : Wp T Tryz.prog tt 30 [.agg [.d (.list 37 (dTypeDefs 40 68 xs))], .d (.str n)] [] Kr Kp := by
  refine go (k := 30) (own := true) (cap := .deep) Tryz.func30 (by kernel_rfl) ?_
  (conv => whnf); repeat' (first | ((first | refine bdec ?_ ?_ | refine bnot ?_ ?_ | refine bsel_intro ?_ ?_ | skip) <;> intro hc <;> (try simp (disch := omega) only [nm, dArgDefs_len, dFieldDefs_len, dTypeDefs_len, dSchemas_len, dArgDefs_0, dArgDefs_1, dFieldDefs_0, dFieldDefs_1, dFieldDefs_2, dFieldDefs_3, dFieldDefs_4, dTypeDefs_0, dTypeDefs_1, dSchemas_0, wrapI] at hc) <;> conv => whnf) | (refine .head _ rfl (by kernel_rfl) ?_; conv => whnf) | (refine And.intro ?_ ?_; (focus ((first | omega | decide | (simp (disch := omega) only [nm, dArgDefs_len, dFieldDefs_len, dTypeDefs_len, dSchemas_len, dArgDefs_0, dArgDefs_1, dFieldDefs_0, dFieldDefs_1, dFieldDefs_2, dFieldDefs_3, dFieldDefs_4, dTypeDefs_0, dTypeDefs_1, dSchemas_0, wrapI] <;> omega) | (simp [strOf, nm, dArgDefs_len, dFieldDefs_len, dTypeDefs_len, dSchemas_len, dArgDefs_0, dArgDefs_1, dFieldDefs_0, dFieldDefs_1, dFieldDefs_2, dFieldDefs_3, dFieldDefs_4, dTypeDefs_0, dTypeDefs_1, dSchemas_0] <;> omega) | exact Nat.le_of_ble_eq_true rfl | rfl); done)); conv => whnf) | (rw [vv]; conv => whnf) | (refine NilP.mk fun nb hnb => ?_; conv => whnf))
  refine loopOf (fun i : Nat => ⟨[(1, .d (.str n)), (2, .ref 0 0), (5, .d (.int .i64 (i : Int)))], [.box [.d (.list 37 (dTypeDefs 40 68 xs))]]⟩) (fun i => i ≤ xs.length ∧ ∀ j, j < i → ∀ q, xs[j]? = some q → q.1 ≠ n) (fun i => xs.length - i) 0 rfl ⟨by omega, fun j hj => by omega⟩ ?_
  intro i I ⟨hi, hs⟩ rec
  obtain ⟨p, hp⟩ : ∃ p, i < xs.length → xs[i]? = some p := ⟨(xs[i]?).getD default, fun h => by simp [h]⟩
  (conv => whnf); repeat' (first | ((first | refine bdec ?_ ?_ | refine bnot ?_ ?_ | refine bsel_intro ?_ ?_ | skip) <;> intro hc <;> (try simp (disch := omega) only [nm, dArgDefs_len, dFieldDefs_len, dTypeDefs_len, dSchemas_len, dArgDefs_0, dArgDefs_1, dFieldDefs_0, dFieldDefs_1, dFieldDefs_2, dFieldDefs_3, dFieldDefs_4, dTypeDefs_0, dTypeDefs_1, dSchemas_0, wrapI] at hc) <;> conv => whnf) | (refine .head _ rfl (by kernel_rfl) ?_; conv => whnf) | (refine And.intro ?_ ?_; (focus ((first | omega | decide | (simp (disch := omega) only [nm, dArgDefs_len, dFieldDefs_len, dTypeDefs_len, dSchemas_len, dArgDefs_0, dArgDefs_1, dFieldDefs_0, dFieldDefs_1, dFieldDefs_2, dFieldDefs_3, dFieldDefs_4, dTypeDefs_0, dTypeDefs_1, dSchemas_0, wrapI] <;> omega) | (simp [strOf, nm, dArgDefs_len, dFieldDefs_len, dTypeDefs_len, dSchemas_len, dArgDefs_0, dArgDefs_1, dFieldDefs_0, dFieldDefs_1, dFieldDefs_2, dFieldDefs_3, dFieldDefs_4, dTypeDefs_0, dTypeDefs_1, dSchemas_0] <;> omega) | exact Nat.le_of_ble_eq_true rfl | rfl); done)); conv => whnf) | (rw [vv]; conv => whnf) | (refine NilP.mk fun nb hnb => ?_; conv => whnf))
  · refine krI h ?_
    have hp := hp (by omega)
    exact fnd_yes hp (by simp_all) hs
  · refine eqI (rec (i + 1) ⟨by omega, lt_succ_split hs (fun q hq => ?_)⟩ (by omega)) ?_
    · have hp := hp (by omega)
      simp_all
    · simp (disch := omega) only [wrapS]
  · exact krI h (fnd_no fun j hj => hs j (by omega))
theorem w32 {x : Str} {xs : List FieldDef} {n : Str} {Kr Kp : C → List Ob → R} (h : Kr (.d (.int .i64 (fnd (xs.map (·.1)) n))) []) : Wp T Tryz.prog tt 32 [.agg [.d (.str x), .d (.list 40 (dFieldDefs 68 xs))], .d (.str n)] [] Kr Kp := by
  refine go (k := 32) (own := true) (cap := .deep) Tryz.func32 (by kernel_rfl) ?_
  (conv => whnf); repeat' (first | ((first | refine bdec ?_ ?_ | refine bnot ?_ ?_ | refine bsel_intro ?_ ?_ | skip) <;> intro hc <;> (try simp (disch := omega) only [nm, dArgDefs_len, dFieldDefs_len, dTypeDefs_len, dSchemas_len, dArgDefs_0, dArgDefs_1, dFieldDefs_0, dFieldDefs_1, dFieldDefs_2, dFieldDefs_3, dFieldDefs_4, dTypeDefs_0, dTypeDefs_1, dSchemas_0, wrapI] at hc) <;> conv => whnf) | (refine .head _ rfl (by kernel_rfl) ?_; conv => whnf) | (refine And.intro ?_ ?_; (focus ((first | omega | decide | (simp (disch := omega) only [nm, dArgDefs_len, dFieldDefs_len, dTypeDefs_len, dSchemas_len, dArgDefs_0, dArgDefs_1, dFieldDefs_0, dFieldDefs_1, dFieldDefs_2, dFieldDefs_3, dFieldDefs_4, dTypeDefs_0, dTypeDefs_1, dSchemas_0, wrapI] <;> omega) | (simp [strOf, nm, dArgDefs_len, dFieldDefs_len, dTypeDefs_len, dSchemas_len, dArgDefs_0, dArgDefs_1, dFieldDefs_0, dFieldDefs_1, dFieldDefs_2, dFieldDefs_3, dFieldDefs_4, dTypeDefs_0, dTypeDefs_1, dSchemas_0] <;> omega) | exact Nat.le_of_ble_eq_true rfl | rfl); done)); conv => whnf) | (rw [vv]; conv => whnf) | (refine NilP.mk fun nb hnb => ?_; conv => whnf))
  refine loopOf (fun i : Nat => ⟨[(1, .d (.str n)), (2, .ref 0 0), (5, .d (.int .i64 (i : Int)))], [.box [.d (.str x), .d (.list 40 (dFieldDefs 68 xs))]]⟩) (fun i => i ≤ xs.length ∧ ∀ j, j < i → ∀ q, xs[j]? = some q → q.1 ≠ n) (fun i => xs.length - i) 0 rfl ⟨by omega, fun j hj => by omega⟩ ?_
  intro i I ⟨hi, hs⟩ rec
  obtain ⟨p, hp⟩ : ∃ p, i < xs.length → xs[i]? = some p := ⟨(xs[i]?).getD default, fun h => by simp [h]⟩
  (conv => whnf); repeat' (first | ((first | refine bdec ?_ ?_ | refine bnot ?_ ?_ | refine bsel_intro ?_ ?_ | skip) <;> intro hc <;> (try simp (disch := omega) only [nm, dArgDefs_len, dFieldDefs_len, dTypeDefs_len, dSchemas_len, dArgDefs_0, dArgDefs_1, dFieldDefs_0, dFieldDefs_1, dFieldDefs_2, dFieldDefs_3, dFieldDefs_4, dTypeDefs_0, dTypeDefs_1, dSchemas_0, wrapI] at hc) <;> conv => whnf) | (refine .head _ rfl (by kernel_rfl) ?_; conv => whnf) | (refine And.intro ?_ ?_; (focus ((first | omega | decide | (simp (disch := omega) only [nm, dArgDefs_len, dFieldDefs_len, dTypeDefs_len, dSchemas_len, dArgDefs_0, dArgDefs_1, dFieldDefs_0, dFieldDefs_1, dFieldDefs_2, dFieldDefs_3, dFieldDefs_4, dTypeDefs_0, dTypeDefs_1, dSchemas_0, wrapI] <;> omega) | (simp [strOf, nm, dArgDefs_len, dFieldDefs_len, dTypeDefs_len, dSchemas_len, dArgDefs_0, dArgDefs_1, dFieldDefs_0, dFieldDefs_1, dFieldDefs_2, dFieldDefs_3, dFieldDefs_4, dTypeDefs_0, dTypeDefs_1, dSchemas_0] <;> omega) | exact Nat.le_of_ble_eq_true rfl | rfl); done)); conv => whnf) | (rw [vv]; conv => whnf) | (refine NilP.mk fun nb hnb => ?_; conv => whnf))
  · refine krI h ?_
    have hp := hp (by omega)
    exact fnd_yes hp (by simp_all) hs
  · refine eqI (rec (i + 1) ⟨by omega, lt_succ_split hs (fun q hq => ?_)⟩ (by omega)) ?_
    · have hp := hp (by omega)
      simp_all
    · simp (disch := omega) only [wrapS]
  · exact krI h (fnd_no fun j hj => hs j (by omega))
theorem w33 {x y : Str} {xs : List ArgDef} {b c : Bool} {n : Str} {Kr Kp : C → List Ob → R} (h : Kr (.d (.int .i64 (fnd (xs.map (·.1)) n))) []) : Wp T Tryz.prog tt 33 [.agg [.d (.str x), .d (.list 68 (dArgDefs xs)), .d (.str y), .d (.bool b), .d (.bool c)], .d (.str n)] [] Kr Kp := by
  refine go (k := 33) (own := true) (cap := .deep) Tryz.func33 (by kernel_rfl) ?_
  (conv => whnf); repeat' (first | ((first | refine bdec ?_ ?_ | refine bnot ?_ ?_ | refine bsel_intro ?_ ?_ | skip) <;> intro hc <;> (try simp (disch := omega) only [nm, dArgDefs_len, dFieldDefs_len, dTypeDefs_len, dSchemas_len, dArgDefs_0, dArgDefs_1, dFieldDefs_0, dFieldDefs_1, dFieldDefs_2, dFieldDefs_3, dFieldDefs_4, dTypeDefs_0, dTypeDefs_1, dSchemas_0, wrapI] at hc) <;> conv => whnf) | (refine .head _ rfl (by kernel_rfl) ?_; conv => whnf) | (refine And.intro ?_ ?_; (focus ((first | omega | decide | (simp (disch := omega) only [nm, dArgDefs_len, dFieldDefs_len, dTypeDefs_len, dSchemas_len, dArgDefs_0, dArgDefs_1, dFieldDefs_0, dFieldDefs_1, dFieldDefs_2, dFieldDefs_3, dFieldDefs_4, dTypeDefs_0, dTypeDefs_1, dSchemas_0, wrapI] <;> omega) | (simp [strOf, nm, dArgDefs_len, dFieldDefs_len, dTypeDefs_len, dSchemas_len, dArgDefs_0, dArgDefs_1, dFieldDefs_0, dFieldDefs_1, dFieldDefs_2, dFieldDefs_3, dFieldDefs_4, dTypeDefs_0, dTypeDefs_1, dSchemas_0] <;> omega) | exact Nat.le_of_ble_eq_true rfl | rfl); done)); conv => whnf) | (rw [vv]; conv => whnf) | (refine NilP.mk fun nb hnb => ?_; conv => whnf))
  refine loopOf (fun i : Nat => ⟨[(1, .d (.str n)), (2, .ref 0 0), (5, .d (.int .i64 (i : Int)))], [.box [.d (.str x), .d (.list 68 (dArgDefs xs)), .d (.str y), .d (.bool b), .d (.bool c)]]⟩) (fun i => i ≤ xs.length ∧ ∀ j, j < i → ∀ q, xs[j]? = some q → q.1 ≠ n) (fun i => xs.length - i) 0 rfl ⟨by omega, fun j hj => by omega⟩ ?_
  intro i I ⟨hi, hs⟩ rec
  obtain ⟨p, hp⟩ : ∃ p, i < xs.length → xs[i]? = some p := ⟨(xs[i]?).getD default, fun h => by simp [h]⟩
  (conv => whnf); repeat' (first | ((first | refine bdec ?_ ?_ | refine bnot ?_ ?_ | refine bsel_intro ?_ ?_ | skip) <;> intro hc <;> (try simp (disch := omega) only [nm, dArgDefs_len, dFieldDefs_len, dTypeDefs_len, dSchemas_len, dArgDefs_0, dArgDefs_1, dFieldDefs_0, dFieldDefs_1, dFieldDefs_2, dFieldDefs_3, dFieldDefs_4, dTypeDefs_0, dTypeDefs_1, dSchemas_0, wrapI] at hc) <;> conv => whnf) | (refine .head _ rfl (by kernel_rfl) ?_; conv => whnf) | (refine And.intro ?_ ?_; (focus ((first | omega | decide | (simp (disch := omega) only [nm, dArgDefs_len, dFieldDefs_len, dTypeDefs_len, dSchemas_len, dArgDefs_0, dArgDefs_1, dFieldDefs_0, dFieldDefs_1, dFieldDefs_2, dFieldDefs_3, dFieldDefs_4, dTypeDefs_0, dTypeDefs_1, dSchemas_0, wrapI] <;> omega) | (simp [strOf, nm, dArgDefs_len, dFieldDefs_len, dTypeDefs_len, dSchemas_len, dArgDefs_0, dArgDefs_1, dFieldDefs_0, dFieldDefs_1, dFieldDefs_2, dFieldDefs_3, dFieldDefs_4, dTypeDefs_0, dTypeDefs_1, dSchemas_0] <;> omega) | exact Nat.le_of_ble_eq_true rfl | rfl); done)); conv => whnf) | (rw [vv]; conv => whnf) | (refine NilP.mk fun nb hnb => ?_; conv => whnf))
  · refine krI h ?_
    have hp := hp (by omega)
    exact fnd_yes hp (by simp_all) hs
  · refine eqI (rec (i + 1) ⟨by omega, lt_succ_split hs (fun q hq => ?_)⟩ (by omega)) ?_
    · have hp := hp (by omega)
      simp_all
    · simp (disch := omega) only [wrapS]
  · exact krI h (fnd_no fun j hj => hs j (by omega))
end Go.Proofs.SL
set_option linter.unusedVariables false
set_option linter.unusedSimpArgs false
set_option maxRecDepth 100000
set_option maxHeartbeats 8000000
namespace Go.Proofs.SL
open Go Go.Proofs Go.Proofs.EN Go.Proofs.VT
variable {T : Tabs}
/-! ### A right schema -/
attribute [local irreducible] nameB fnd inB
abbrev tInt : Str := [73, 110, 116]
abbrev tTN : Str := [95, 95, 116, 121, 112, 101, 110, 97, 109, 101]
def argB (xs : List ArgDef) (n : Nat) : Bool := nameB ((xs[n]?).getD default).1 && decide (fnd (xs.map (·.1)) ((xs[n]?).getD default).1 = (n : Int))
def fldB (ts : List TypeDef) (f : FieldDef) : Bool := nameB f.1 && !decide (f.1 = tTN) && (decide (f.2.2.1 = tInt) || !decide (fnd (ts.map (·.1)) f.2.2.1 < 0)) && decide (f.2.1.length ≤ 4) && allN f.2.1.length (argB f.2.1)
attribute [local irreducible] fldB
end Go.Proofs.SL
