/- Contracts of functions of this program, by the evaluator EN; part KJ. No conditions but those that each theorem states. -/
import Derived.Test.YtekcghhacpllaaaGreatDoorGA2
import Derived.Test.YtekcghhacpllaaaGreatDoorShelf
import Derived.Lib.AppendIntMem
set_option linter.unusedVariables false
set_option linter.unusedSimpArgs false
set_option maxRecDepth 100000
set_option maxHeartbeats 8000000
namespace Go.Proofs.SL
open Go Go.Proofs Go.Proofs.EN Go.Proofs.VT Go.RowKit
variable {T : Tabs}
theorem rep_list_inv {w : World} {S : Nat → Prop} {v : Value} {e : TypeId} {xs : List (List D)} (h : Rep tt w S v (.list e xs)) :
    (xs = [] ∧ ∃ a cap, v = .slice a 0 cap) ∨ ∃ (ti : TI) (b off cap : Nat) (vs : Nat → Nat → Value), tt e = some ti ∧ v = .slice (some ⟨b, off, none⟩) xs.length cap ∧ xs.length ≤ big ∧ S b ∧ xs.length ≤ cap ∧ 0 < xs.length ∧
      (∀ i j, i < xs.length → j < ti.cells.length → w.cell? ⟨b, off + (i * ti.cells.length + j), none⟩ = some (vs i j)) ∧ (∀ i j, i < xs.length → j < ti.cells.length → Rep tt w S (vs i j) ((xs.getD i []).getD j .z)) := by
  cases h with
  | nil _ a cap => exact .inl ⟨rfl, a, cap, rfl⟩
  | list _ ti _ a cap b off vs ht hd hk hcap hb hfit ha hc hr =>
    rcases Nat.eq_zero_or_pos xs.length with h0 | h0
    · obtain rfl := List.length_eq_zero_iff.1 h0
      exact .inl ⟨rfl, a, cap, rfl⟩
    · obtain ⟨rfl, hS⟩ := ha h0
      exact .inr ⟨ti, b, off, cap, vs, ht, rfl, hb, hS, hcap, h0, hc, hr⟩
theorem kept_below {w w' : World} (h : Go.RowKit.Below w.heap.size w w') : Kept (fun _ => False) w w' := ⟨h.os, h.tape, h.output, h.size, fun b hb _ => h.block b hb⟩
theorem strs_back (ws : List Str) : ((ws.map fun y => (⟨y.toArray⟩ : ByteArray)).map (·.data.toList)) = ws := by
  induction ws with
  | nil => rfl
  | cons w ws ih => simp only [List.map_cons, ih]
theorem w48 {ws : List Str} {s : Str} {Kr Kp : C → List Ob → R} (hb : (Lib.join ws s).length ≤ 4294967296) (h : Kr (.d (.str (Lib.join ws s))) []) : Wp T Tryz.prog tt 48 [.d (.list 9 (dStr ws)), .d (.str s)] [] Kr Kp := by
  refine Wp.ofPure (enters_of Tryz.func48 (by kernel_rfl) rfl) (fun i hi => ?_) rfl (fun w S vs hS hT hl hv => ?_) h
  · match i, hi with
    | 0, _ => rfl
    | 1, _ => rfl
  · match vs, hl with
    | [v0, v1], _ =>
      have h0 : Rep tt w S v0 (.list 9 (dStr ws)) := by have := hv 0 (by simp); cases this with | d _ _ h => exact h
      have h1 : v1 = .string ⟨s.toArray⟩ := by have := hv 1 (by simp); cases this with | d _ _ h => cases h; rfl
      subst h1
      rcases rep_list_inv h0 with ⟨hz, a, cap, rfl⟩ | ⟨ti, b, off, cap, us, ht, rfl, hbg, hSb, hcp, hz, hc, hrr⟩
      · obtain rfl : ws = [] := by simpa [dStr] using hz
        refine (Tryz.strings_Join_none a cap ⟨s.toArray⟩ w).mono fun e w' ⟨he, hw⟩ => ⟨_, he, ?_, ?_⟩
        · subst hw; exact Kept.refl _ _
        · exact .d _ _ (.str [] (by simp [big]))
      · obtain rfl : (⟨.str, [.str], 16⟩ : TI) = ti := Option.some.inj ((show tt 9 = some _ by rfl).symm.trans ht)
        have hbc : b < w.heap.size := hS b hSb
        have hbl : (ws.map fun y => (⟨y.toArray⟩ : ByteArray)).length = (dStr ws).length := by simp
        have key := Tryz.strings_Join b off cap (ws.map fun y => ⟨y.toArray⟩) ⟨s.toArray⟩ w (fun j y hy => by
          have hj : j < ws.length := by
            have := (List.getElem?_eq_some_iff.1 hy).1
            simpa using this
          have e0 := hc j 0 (by simpa using hj) (by simp)
          have r0 := hrr j 0 (by simpa using hj) (by simp)
          have g0 : ((dStr ws).getD j []).getD 0 .z = .str ws[j] := by simp [dStr, hj]
          rw [g0] at r0
          generalize us j 0 = v at r0 e0
          cases r0 with
          | str _ _ =>
            rw [List.getElem?_map, List.getElem?_eq_getElem hj] at hy
            simp only [Option.map_some, Option.some.injEq] at hy
            rw [← hy]
            simpa using e0) hbc (by rw [hbl]; simp only [big] at hbg; omega) (by rw [hbl]; exact hcp) (by rw [strs_back]; show (Lib.join ws s).length ≤ _; omega)
        rw [hbl] at key
        refine key.mono fun e w' ⟨he, hw⟩ => ⟨_, he, kept_below hw, ?_⟩
        rw [strs_back]
        exact .d _ _ (.str _ (by simpa [big] using hb))
end Go.Proofs.SL
