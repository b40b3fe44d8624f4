/- Contracts of functions of this program, by the evaluator EN; part RD. No conditions but those that each theorem states. -/
import Derived.Test.YtekcghhacpllaaaDoorRa
import Derived.Test.YtekcghhacpllaaaDoorShelf
import Derived.Lib.AppendIntMem
import Derived.Lib.ItoaLen
set_option linter.unusedVariables false
set_option linter.unusedSimpArgs false
set_option maxRecDepth 100000
set_option maxHeartbeats 8000000
namespace Go.Proofs.SL
open Go Go.Proofs Go.Proofs.EN Go.Proofs.VT Go.RowKit
variable {T : Tabs}
/-! ### The library's -/
/-- What the library's numerals are written by. -/
def HasPow (T : Tabs) : Prop := ∀ w, T.ok w → Lib.TabIs Tryd.prog w "internal/strconv.uint64pow10" .u64 Lib.pow10Tab
theorem itoa_len {n : Int} (h1 : -9223372036854775808 ≤ n ∧ n ≤ 9223372036854775807) : (Lib.itoa n).length ≤ 21 := by
  have := Lib.itoa_length_le n h1.1 h1.2
  omega
theorem w94 {n : Int} {Kr Kp : C → List Ob → R} (hP : HasPow T) (h1 : -9223372036854775808 ≤ n ∧ n ≤ 9223372036854775807) (h : Kr (.d (.str (Lib.itoa n))) []) : Wp T Tryd.prog tt 94 [.d (.int .i64 n)] [] Kr Kp := by
  refine Wp.ofPure (enters_of Tryd.func94 (by kernel_rfl) rfl) (fun i hi => ?_) rfl (fun w S vs hS hT hl hv => ?_) h
  · match i, hi with
    | 0, _ => rfl
  · match vs, hl with
    | [v0], _ =>
      have h0 : v0 = .int .i64 n := by have := hv 0 (by simp); cases this with | d _ _ h => cases h; rfl
      subst h0
      refine (Tryd.strconv_Itoa n h1.1 h1.2 w (hP w hT)).mono fun e w' ⟨he, k, os, hw⟩ => ⟨_, he, ?_, ?_⟩
      · subst hw
        have hb := Go.Lib.below_grow w.heap.size w (Nat.le_refl _) k os
        exact ⟨hb.os, hb.tape, hb.output, hb.size, fun b hb' _ => hb.block b hb'⟩
      · refine .d _ _ (.str _ ?_)
        have := itoa_len h1
        simp only [big]; omega
theorem strs_back (ws : List Str) : ((ws.map fun y => (⟨y.toArray⟩ : ByteArray)).map (·.data.toList)) = ws := by
  induction ws with
  | nil => rfl
  | cons w ws ih => simp only [List.map_cons, ih]
theorem w39 {ws : List Str} {s : Str} {Kr Kp : C → List Ob → R} (hb : (Lib.join ws s).length ≤ 4294967296) (h : Kr (.d (.str (Lib.join ws s))) []) : Wp T Tryd.prog tt 39 [.d (.list 9 (dStr ws)), .d (.str s)] [] Kr Kp := by
  refine Wp.ofPure (enters_of Tryd.func39 (by kernel_rfl) rfl) (fun i hi => ?_) rfl (fun w S vs hS hT hl hv => ?_) h
  · match i, hi with
    | 0, _ => rfl
    | 1, _ => rfl
  · match vs, hl with
    | [v0, v1], _ =>
      have h0 : Rep tt w S v0 (.list 9 (dStr ws)) := by have := hv 0 (by simp); cases this with | d _ _ h => exact h
      have h1 : v1 = .string ⟨s.toArray⟩ := by have := hv 1 (by simp); cases this with | d _ _ h => cases h; rfl
      subst h1
      rcases rep_list_inv h0 with ⟨hz, a, cap, rfl⟩ | ⟨ti, b, off, cap, us, ht, rfl, hbg, hSb, hcp, hz, hc, hrr⟩
      · obtain rfl : ws = [] := by simpa [dStr] using hz
        refine (Tryd.strings_Join_none a cap ⟨s.toArray⟩ w).mono fun e w' ⟨he, hw⟩ => ⟨_, he, ?_, ?_⟩
        · subst hw; exact Kept.refl _ _
        · exact .d _ _ (.str [] (by simp [big]))
      · obtain rfl : (⟨.str, [.str], 16⟩ : TI) = ti := Option.some.inj ((show tt 9 = some _ by rfl).symm.trans ht)
        have hbc : b < w.heap.size := hS b hSb
        have hbl : (ws.map fun y => (⟨y.toArray⟩ : ByteArray)).length = (dStr ws).length := by simp
        have key := Tryd.strings_Join b off cap (ws.map fun y => ⟨y.toArray⟩) ⟨s.toArray⟩ w (fun j y hy => by
          have hj : j < ws.length := by
            have := (List.getElem?_eq_some_iff.1 hy).1
            simpa using this
          have e0 := hc j 0 (by simpa using hj) (by simp)
          have r0 := hrr j 0 (by simpa using hj) (by simp)
          have g0 : ((dStr ws).getD j []).getD 0 .z = .str ws[j] := by simp [dStr, hj]
          rw [g0] at r0
          generalize us j 0 = v at r0 e0
          cases r0 with
          | str _ _ =>
            rw [List.getElem?_map, List.getElem?_eq_getElem hj] at hy
            simp only [Option.map_some, Option.some.injEq] at hy
            rw [← hy]
            simpa using e0) hbc (by rw [hbl]; simp only [big] at hbg; omega) (by rw [hbl]; exact hcp) (by rw [strs_back]; show (Lib.join ws s).length ≤ _; omega)
        rw [hbl] at key
        refine key.mono fun e w' ⟨he, hw⟩ => ⟨_, he, kept_below hw, ?_⟩
        rw [strs_back]
        exact .d _ _ (.str _ (by simpa [big] using hb))
end Go.Proofs.SL
