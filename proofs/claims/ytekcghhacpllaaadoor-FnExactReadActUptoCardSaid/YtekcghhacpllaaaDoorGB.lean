/- Contracts of functions of this program, by the evaluator EN; part GB. No conditions but those that each theorem states. -/
import Derived.Test.YtekcghhacpllaaaDoorGD
import Derived.Test.YtekcghhacpllaaaDoorShelf
import Derived.Lib.AppendIntMem
set_option linter.unusedVariables false
set_option linter.unusedSimpArgs false
set_option maxRecDepth 100000
set_option maxHeartbeats 8000000
namespace Go.Proofs.SL
open Go Go.Proofs Go.Proofs.EN Go.Proofs.VT Go.RowKit
variable {T : Tabs}
theorem rep_list_inv {w : World} {S : Nat → Prop} {v : Value} {e : TypeId} {xs : List (List D)} (h : Rep tt w S v (.list e xs)) :
    (xs = [] ∧ ∃ a cap, v = .slice a 0 cap) ∨ ∃ (ti : TI) (b off cap : Nat) (vs : Nat → Nat → Value), tt e = some ti ∧ v = .slice (some ⟨b, off, none⟩) xs.length cap ∧ xs.length ≤ big ∧ S b ∧ xs.length ≤ cap ∧ 0 < xs.length ∧
      (∀ i j, i < xs.length → j < ti.cells.length → w.cell? ⟨b, off + (i * ti.cells.length + j), none⟩ = some (vs i j)) ∧ (∀ i j, i < xs.length → j < ti.cells.length → Rep tt w S (vs i j) ((xs.getD i []).getD j .z)) := by
  cases h with
  | nil _ a cap => exact .inl ⟨rfl, a, cap, rfl⟩
  | list _ ti _ a cap b off vs ht hd hk hcap hb hfit ha hc hr =>
    rcases Nat.eq_zero_or_pos xs.length with h0 | h0
    · obtain rfl := List.length_eq_zero_iff.1 h0
      exact .inl ⟨rfl, a, cap, rfl⟩
    · obtain ⟨rfl, hS⟩ := ha h0
      exact .inr ⟨ti, b, off, cap, vs, ht, rfl, hb, hS, hcap, h0, hc, hr⟩
theorem kept_below {w w' : World} (h : Go.RowKit.Below w.heap.size w w') : Kept (fun _ => False) w w' := ⟨h.os, h.tape, h.output, h.size, fun b hb _ => h.block b hb⟩
/-! ### The library's -/
/-- What the library's numerals are written by. -/
def HasPow (T : Tabs) : Prop := ∀ w, T.ok w → Lib.TabIs Tryd.prog w "internal/strconv.uint64pow10" .u64 Lib.pow10Tab
theorem w94 {n : Int} {Kr Kp : C → List Ob → R} (hP : HasPow T) (h1 : -9223372036854775808 ≤ n ∧ n ≤ 9223372036854775807) (h : Kr (.d (.str (Lib.itoa n))) []) : Wp T Tryd.prog tt 94 [.d (.int .i64 n)] [] Kr Kp := by
  refine Wp.ofPure (enters_of Tryd.func94 (by kernel_rfl) rfl) (fun i hi => ?_) rfl (fun w S vs hS hT hl hv => ?_) h
  · match i, hi with
    | 0, _ => rfl
  · match vs, hl with
    | [v0], _ =>
      have h0 : v0 = .int .i64 n := by have := hv 0 (by simp); cases this with | d _ _ h => cases h; rfl
      subst h0
      refine (Tryd.strconv_Itoa n h1.1 h1.2 w (hP w hT)).mono fun e w' ⟨he, k, os, hw⟩ => ⟨_, he, ?_, ?_⟩
      · subst hw
        have hb := Go.Lib.below_grow w.heap.size w (Nat.le_refl _) k os
        exact ⟨hb.os, hb.tape, hb.output, hb.size, fun b hb' _ => hb.block b hb'⟩
      · refine .d _ _ (.str _ ?_)
        have := itoa_len h1
        simp only [big]; omega
theorem strs_back (ws : List Str) : ((ws.map fun y => (⟨y.toArray⟩ : ByteArray)).map (·.data.toList)) = ws := by
  induction ws with
  | nil => rfl
  | cons w ws ih => simp only [List.map_cons, ih]
theorem w39 {ws : List Str} {s : Str} {Kr Kp : C → List Ob → R} (hb : (Lib.join ws s).length ≤ 4294967296) (h : Kr (.d (.str (Lib.join ws s))) []) : Wp T Tryd.prog tt 39 [.d (.list 9 (dStr ws)), .d (.str s)] [] Kr Kp := by
  refine Wp.ofPure (enters_of Tryd.func39 (by kernel_rfl) rfl) (fun i hi => ?_) rfl (fun w S vs hS hT hl hv => ?_) h
  · match i, hi with
    | 0, _ => rfl
    | 1, _ => rfl
  · match vs, hl with
    | [v0, v1], _ =>
      have h0 : Rep tt w S v0 (.list 9 (dStr ws)) := by have := hv 0 (by simp); cases this with | d _ _ h => exact h
      have h1 : v1 = .string ⟨s.toArray⟩ := by have := hv 1 (by simp); cases this with | d _ _ h => cases h; rfl
      subst h1
      rcases rep_list_inv h0 with ⟨hz, a, cap, rfl⟩ | ⟨ti, b, off, cap, us, ht, rfl, hbg, hSb, hcp, hz, hc, hrr⟩
      · obtain rfl : ws = [] := by simpa [dStr] using hz
        refine (Tryd.strings_Join_none a cap ⟨s.toArray⟩ w).mono fun e w' ⟨he, hw⟩ => ⟨_, he, ?_, ?_⟩
        · subst hw; exact Kept.refl _ _
        · exact .d _ _ (.str [] (by simp [big]))
      · obtain rfl : (⟨.str, [.str], 16⟩ : TI) = ti := Option.some.inj ((show tt 9 = some _ by rfl).symm.trans ht)
        have hbc : b < w.heap.size := hS b hSb
        have hbl : (ws.map fun y => (⟨y.toArray⟩ : ByteArray)).length = (dStr ws).length := by simp
        have key := Tryd.strings_Join b off cap (ws.map fun y => ⟨y.toArray⟩) ⟨s.toArray⟩ w (fun j y hy => by
          have hj : j < ws.length := by
            have := (List.getElem?_eq_some_iff.1 hy).1
            simpa using this
          have e0 := hc j 0 (by simpa using hj) (by simp)
          have r0 := hrr j 0 (by simpa using hj) (by simp)
          have g0 : ((dStr ws).getD j []).getD 0 .z = .str ws[j] := by simp [dStr, hj]
          rw [g0] at r0
          generalize us j 0 = v at r0 e0
          cases r0 with
          | str _ _ =>
            rw [List.getElem?_map, List.getElem?_eq_getElem hj] at hy
            simp only [Option.map_some, Option.some.injEq] at hy
            rw [← hy]
            simpa using e0) hbc (by rw [hbl]; simp only [big] at hbg; omega) (by rw [hbl]; exact hcp) (by rw [strs_back]; show (Lib.join ws s).length ≤ _; omega)
        rw [hbl] at key
        refine key.mono fun e w' ⟨he, hw⟩ => ⟨_, he, kept_below hw, ?_⟩
        rw [strs_back]
        exact .d _ _ (.str _ (by simpa [big] using hb))
/-- What stands in the variables of the library's errors. -/
def HasErr (T : Tabs) : Prop := ∀ w, T.ok w → ∀ b, b = 2 ∨ b = 3 → ∃ ev, w.cell? ⟨b, 0, none⟩ = some ev ∧ (ev = .nilIface ∨ ∃ te pe, ev = .iface te pe)
def atoiN (t : Str) : Int := match Lib.atoiAll t with
  | .ok v => v
  | .range => Lib.atoiSat t
  | _ => 0
def atoiE (t : Str) : Bool := match Lib.atoiAll t with
  | .ok _ => true
  | _ => false
theorem rep_tup {w : World} {S : Nat → Prop} {g : Gh} {os : List Ob} {v1 v2 : Value} {d1 d2 : D} (h1 : Rep tt w S v1 d1) (h2 : Rep tt w S v2 d2) : RepC tt w S g os (.tuple #[v1, v2]) (.tuple [.d d1, .d d2]) :=
  .tuple _ _ rfl fun i hi => by
    match i, hi with
    | 0, _ => exact .d _ _ h1
    | 1, _ => exact .d _ _ h2
theorem str_of {w : World} {S : Nat → Prop} {g : Gh} {os : List Ob} {v : Value} {t : Str} (h : RepC tt w S g os v (.d (.str t))) : v = .string ⟨t.toArray⟩ := by
  cases h with | d _ _ h => cases h; rfl
theorem w125 {t : Str} {Kr Kp : C → List Ob → R} (hE : HasErr T) (ht : t.length ≤ 16777216) (h : Kr (.tuple [.d (.int .i64 (atoiN t)), .d (.errv (atoiE t))]) []) : Wp T Tryd.prog tt 125 [.d (.str t)] [] Kr Kp := by
  refine Wp.ofPure (enters_of Tryd.func125 (by kernel_rfl) rfl) (fun i hi => ?_) rfl (fun w S vs hS hT hl hv => ?_) h
  · match i, hi with
    | 0, _ => rfl
  · match vs, hl with
    | [v0], _ =>
      obtain rfl : v0 = .string ⟨t.toArray⟩ := str_of (hv 0 (by simp))
      have hsz : (⟨t.toArray⟩ : ByteArray).size = t.length := by simp [ByteArray.size]
      cases ha : Lib.atoiAll t with
      | ok n =>
        have e1 : atoiN t = n := by simp [atoiN, ha]
        have e2 : atoiE t = true := by simp [atoiE, ha]
        refine (Tryd.strconv_Atoi_ok ⟨t.toArray⟩ (by omega) n (by simpa using ha) w).mono fun e w' ⟨he, hw⟩ => ⟨_, he, ?_, ?_⟩
        · rcases hw with rfl | ⟨b, rfl⟩
          · exact Kept.refl _ _
          · exact kept_below (Lib.bytesWorld_below _ _ _)
        · rw [e1, e2]
          exact rep_tup (.int _ _) .errN
      | range =>
        obtain ⟨ev, hev, hk⟩ := hE w hT _ (.inr rfl)
        have e1 : atoiN t = Lib.atoiSat t := by simp [atoiN, ha]
        have e2 : atoiE t = false := by simp [atoiE, ha]
        refine (Tryd.strconv_Atoi_range ⟨t.toArray⟩ (by omega) (by simpa using ha) ev w hev hk).mono fun e w' ⟨N, he, _, _, hB⟩ => ⟨_, he, kept_below hB, ?_⟩
        rw [e1, e2]
        exact rep_tup (.int _ _) (.errE _ _)
      | _ =>
        obtain ⟨ev, hev, hk⟩ := hE w hT _ (.inl rfl)
        have e1 : atoiN t = 0 := by simp [atoiN, ha]
        have e2 : atoiE t = false := by simp [atoiE, ha]
        refine (Any.strconv_Atoi_syntax Tryd.laysC172 ⟨t.toArray⟩ (by omega) (by simpa using ha) ev w hev hk).mono fun e w' ⟨N, he, _, _, hB⟩ => ⟨_, he, kept_below hB, ?_⟩
        rw [e1, e2]
        exact rep_tup (.int _ _) (.errE _ _)
theorem w126 {t p : Str} {Kr Kp : C → List Ob → R} (ht : t.length ≤ 16777216) (h : Kr (.d (.str (Lib.trimPrefix t p))) []) : Wp T Tryd.prog tt 126 [.d (.str t), .d (.str p)] [] Kr Kp := by
  refine Wp.ofPure (enters_of Tryd.func126 (by kernel_rfl) rfl) (fun i hi => ?_) rfl (fun w S vs hS hT hl hv => ?_) h
  · match i, hi with
    | 0, _ => rfl
    | 1, _ => rfl
  · match vs, hl with
    | [v0, v1], _ =>
      obtain rfl : v0 = .string ⟨t.toArray⟩ := str_of (hv 0 (by simp))
      obtain rfl : v1 = .string ⟨p.toArray⟩ := str_of (hv 1 (by simp))
      refine (Tryd.strings_TrimPrefix _ _ w).mono fun e w' ⟨he, hw⟩ => ⟨_, he, hw ▸ Kept.refl _ _, .d _ _ (.str _ ?_)⟩
      have : (Lib.trimPrefix t p).length ≤ t.length := by unfold Lib.trimPrefix; split <;> simp
      simp only [big]; omega
end Go.Proofs.SL
