/- Contracts of functions of this program, by the evaluator EN. No conditions but those that each theorem states. -/
import Derived.Test.YtekcghhacpllaaaGreatDoorGD
import Derived.Test.YtekcghhacpllaaaGreatDoorKJ
import Derived.Lib.AppendIntMem
import Derived.Test.YtekcghhacpllaaaGreatDoorEHd
import Derived.Lib.SplitLaws
import Derived.Lib.Join
import Derived.Shelf.SlicesE.DeleteFunc
import Derived.Lib.OwnBridge
import Derived.Test.YtekcghhacpllaaaGreatDoorLQ
set_option linter.unusedVariables false
set_option linter.unusedSimpArgs false
set_option maxRecDepth 100000
set_option maxHeartbeats 8000000
namespace Go.Proofs.SL
open Go Go.Proofs Go.Proofs.EN Go.Proofs.VT Go.RowKit
variable {T : Tabs}
/-! ### The library's -/
/-- What the library's numerals are written by. -/
def HasPow (T : Tabs) : Prop := ∀ w, T.ok w → Lib.TabIs Tryz.prog w "internal/strconv.uint64pow10" .u64 Lib.pow10Tab
theorem w118 {n : Int} {Kr Kp : C → List Ob → R} (hP : HasPow T) (h1 : -9223372036854775808 ≤ n ∧ n ≤ 9223372036854775807) (h : Kr (.d (.str (Lib.itoa n))) []) : Wp T Tryz.prog tt 118 [.d (.int .i64 n)] [] Kr Kp := by
  refine Wp.ofPure (enters_of Tryz.func118 (by kernel_rfl) rfl) (fun i hi => ?_) rfl (fun w S vs hS hT hl hv => ?_) h
  · match i, hi with
    | 0, _ => rfl
  · match vs, hl with
    | [v0], _ =>
      have h0 : v0 = .int .i64 n := by have := hv 0 (by simp); cases this with | d _ _ h => cases h; rfl
      subst h0
      refine (Tryz.strconv_Itoa n h1.1 h1.2 w (hP w hT)).mono fun e w' ⟨he, k, os, hw⟩ => ⟨_, he, ?_, ?_⟩
      · subst hw
        have hb := Go.Lib.below_grow w.heap.size w (Nat.le_refl _) k os
        exact ⟨hb.os, hb.tape, hb.output, hb.size, fun b hb' _ => hb.block b hb'⟩
      · refine .d _ _ (.str _ ?_)
        have := itoa_len h1
        simp only [big]; omega
/-- What stands in the variables of the library's errors. -/
def HasErr (T : Tabs) : Prop := ∀ w, T.ok w → ∀ b, b = 2 ∨ b = 3 → ∃ ev, w.cell? ⟨b, 0, none⟩ = some ev ∧ (ev = .nilIface ∨ ∃ te pe, ev = .iface te pe)
def atoiN (t : Str) : Int := match Lib.atoiAll t with
  | .ok v => v
  | .range => Lib.atoiSat t
  | _ => 0
def atoiE (t : Str) : Bool := match Lib.atoiAll t with
  | .ok _ => true
  | _ => false
theorem rep_tup {w : World} {S : Nat → Prop} {g : Gh} {os : List Ob} {v1 v2 : Value} {d1 d2 : D} (h1 : Rep tt w S v1 d1) (h2 : Rep tt w S v2 d2) : RepC tt w S g os (.tuple #[v1, v2]) (.tuple [.d d1, .d d2]) :=
  .tuple _ _ rfl fun i hi => by
    match i, hi with
    | 0, _ => exact .d _ _ h1
    | 1, _ => exact .d _ _ h2
theorem str_of {w : World} {S : Nat → Prop} {g : Gh} {os : List Ob} {v : Value} {t : Str} (h : RepC tt w S g os v (.d (.str t))) : v = .string ⟨t.toArray⟩ := by
  cases h with | d _ _ h => cases h; rfl
theorem w149 {t : Str} {Kr Kp : C → List Ob → R} (hE : HasErr T) (ht : t.length ≤ 16777216) (h : Kr (.tuple [.d (.int .i64 (atoiN t)), .d (.errv (atoiE t))]) []) : Wp T Tryz.prog tt 149 [.d (.str t)] [] Kr Kp := by
  refine Wp.ofPure (enters_of Tryz.func149 (by kernel_rfl) rfl) (fun i hi => ?_) rfl (fun w S vs hS hT hl hv => ?_) h
  · match i, hi with
    | 0, _ => rfl
  · match vs, hl with
    | [v0], _ =>
      obtain rfl : v0 = .string ⟨t.toArray⟩ := str_of (hv 0 (by simp))
      have hsz : (⟨t.toArray⟩ : ByteArray).size = t.length := by simp [ByteArray.size]
      cases ha : Lib.atoiAll t with
      | ok n =>
        have e1 : atoiN t = n := by simp [atoiN, ha]
        have e2 : atoiE t = true := by simp [atoiE, ha]
        refine (Tryz.strconv_Atoi_ok ⟨t.toArray⟩ (by omega) n (by simpa using ha) w).mono fun e w' ⟨he, hw⟩ => ⟨_, he, ?_, ?_⟩
        · rcases hw with rfl | ⟨b, rfl⟩
          · exact Kept.refl _ _
          · exact kept_below (Lib.bytesWorld_below _ _ _)
        · rw [e1, e2]
          exact rep_tup (.int _ _) .errN
      | range =>
        obtain ⟨ev, hev, hk⟩ := hE w hT _ (.inr rfl)
        have e1 : atoiN t = Lib.atoiSat t := by simp [atoiN, ha]
        have e2 : atoiE t = false := by simp [atoiE, ha]
        refine (Tryz.strconv_Atoi_range ⟨t.toArray⟩ (by omega) (by simpa using ha) ev w hev hk).mono fun e w' ⟨N, he, _, _, hB⟩ => ⟨_, he, kept_below hB, ?_⟩
        rw [e1, e2]
        exact rep_tup (.int _ _) (.errE _ _)
      | _ =>
        obtain ⟨ev, hev, hk⟩ := hE w hT _ (.inl rfl)
        have e1 : atoiN t = 0 := by simp [atoiN, ha]
        have e2 : atoiE t = false := by simp [atoiE, ha]
        refine (Any.strconv_Atoi_syntax Tryz.laysC172 ⟨t.toArray⟩ (by omega) (by simpa using ha) ev w hev hk).mono fun e w' ⟨N, he, _, _, hB⟩ => ⟨_, he, kept_below hB, ?_⟩
        rw [e1, e2]
        exact rep_tup (.int _ _) (.errE _ _)
theorem w150 {t p : Str} {Kr Kp : C → List Ob → R} (ht : t.length ≤ 16777216) (h : Kr (.d (.str (Lib.trimPrefix t p))) []) : Wp T Tryz.prog tt 150 [.d (.str t), .d (.str p)] [] Kr Kp := by
  refine Wp.ofPure (enters_of Tryz.func150 (by kernel_rfl) rfl) (fun i hi => ?_) rfl (fun w S vs hS hT hl hv => ?_) h
  · match i, hi with
    | 0, _ => rfl
    | 1, _ => rfl
  · match vs, hl with
    | [v0, v1], _ =>
      obtain rfl : v0 = .string ⟨t.toArray⟩ := str_of (hv 0 (by simp))
      obtain rfl : v1 = .string ⟨p.toArray⟩ := str_of (hv 1 (by simp))
      refine (Tryz.strings_TrimPrefix _ _ w).mono fun e w' ⟨he, hw⟩ => ⟨_, he, hw ▸ Kept.refl _ _, .d _ _ (.str _ ?_)⟩
      have : (Lib.trimPrefix t p).length ≤ t.length := by unfold Lib.trimPrefix; split <;> simp
      simp only [big]; omega
end Go.Proofs.SL
set_option linter.unusedVariables false
set_option linter.unusedSimpArgs false
set_option maxRecDepth 100000
set_option maxHeartbeats 8000000
namespace Go.Proofs.SL
open Go Go.Proofs Go.Proofs.EN Go.Proofs.VT
variable {T : Tabs}
theorem atoiN_i64 (t : Str) : -9223372036854775808 ≤ atoiN t ∧ atoiN t ≤ 9223372036854775807 := by
  unfold atoiN
  split
  · rename_i v h
    unfold Lib.atoiAll at h
    split at h
    · cases h
    · rename_i c r
      simp only at h
      split at h
      · cases h
      · cases h
      · rename_i u hu
        split at h
        · cases h
        · split at h
          · cases h
          · simp only [Lib.NumEnd.ok.injEq] at h
            subst h
            split <;> omega
  · unfold Lib.atoiSat
    split <;> omega
  · omega
def nB (t : Str) : Bool := atoiE t && (decide (Lib.itoa (atoiN t) = t) && decide ((Lib.trimPrefix t [45]).length ≤ 18))
theorem w129 {t : Str} {Kr Kp : C → List Ob → R} (hE : HasErr T) (hP : HasPow T) (ht : t.length ≤ 16777216) (h1 : nB t = true → Kr (.tuple [.d (.int .i64 (atoiN t)), .d (.bool true)]) []) (h2 : nB t = false → Kr (.tuple [.d (.int .i64 0), .d (.bool false)]) []) : Wp T Tryz.prog tt 129 [.d (.str t)] [] Kr Kp := by
  refine go (k := 129) (own := true) (cap := .deep) Tryz.func129 (by kernel_rfl) ?_
  have hb := atoiN_i64 t
  refine w149 hE ht ?_
  conv => whnf
  cases he : atoiE t
  · (conv => whnf); repeat' (first | ((first | refine bdec ?_ ?_ | refine bnot ?_ ?_ | refine bsel_intro ?_ ?_ | skip) <;> intro hc <;> (try simp (disch := omega) only [nm, wrapI] at hc) <;> conv => whnf) | (refine .head _ rfl (by kernel_rfl) ?_; conv => whnf) | (refine And.intro ?_ ?_; (focus ((first | omega | decide | (simp (disch := omega) only [nm, wrapI] <;> omega) | (simp [strOf, nm] <;> omega) | exact Nat.le_of_ble_eq_true rfl | rfl); done)); conv => whnf) | (rw [vv]; conv => whnf) | (refine NilP.mk fun nb hnb => ?_; conv => whnf))
    exact h2 (by simp [nB, he])
  · (conv => whnf); repeat' (first | ((first | refine bdec ?_ ?_ | refine bnot ?_ ?_ | refine bsel_intro ?_ ?_ | skip) <;> intro hc <;> (try simp (disch := omega) only [nm, wrapI] at hc) <;> conv => whnf) | (refine .head _ rfl (by kernel_rfl) ?_; conv => whnf) | (refine w118 hP (by omega) ?_; conv => whnf) | (refine w150 ht ?_; conv => whnf) | (apply pcall; (focus (intro _ _ hk; first | exact w118 hP (by omega) hk | exact w150 ht hk)); conv => whnf) | (refine And.intro ?_ ?_; (focus ((first | omega | decide | (simp (disch := omega) only [nm, wrapI] <;> omega) | (simp [strOf, nm] <;> omega) | exact Nat.le_of_ble_eq_true rfl | rfl); done)); conv => whnf) | (rw [vv]; conv => whnf) | (refine NilP.mk fun nb hnb => ?_; conv => whnf))
    · refine h2 ?_; simp [nB, he]; intro h; exact absurd h hc
    · refine h2 ?_; simp [nB, he]; intro _; omega
    · refine h1 ?_; simp_all [nB]; omega
theorem nB_yes {t : Str} (h : nB t = true) (h2 : -2147483648 ≤ atoiN t ∧ atoiN t ≤ 2147483647) : intO t = some (atoiN t) := by
  simp only [nB, Bool.and_eq_true, decide_eq_true_eq] at h
  have := intO_itoa h2
  rwa [h.2.1] at this
theorem intO_nB {t : Str} {n : Int} (h : intO t = some n) : nB t = true ∧ atoiN t = n := by
  have hb := intO_bound h
  obtain rfl := intO_some h
  have hl := dec_small32 hb
  have ha := atoi_itoa hl
  have e1 : atoiN (Lib.itoa n) = n := by simp [atoiN, ha]
  exact ⟨by simp [nB, atoiE, ha, e1, trim_itoa, hl], e1⟩
theorem w95 {t : Str} {Kr Kp : C → List Ob → R} (hE : HasErr T) (hP : HasPow T) (ht : t.length ≤ 16777216) (h : Kr (.tuple [.d (.int .i64 ((intO t).getD 0)), .d (.bool (intO t).isSome)]) []) : Wp T Tryz.prog tt 95 [.d (.str t)] [] Kr Kp := by
  refine go (k := 95) (own := true) (cap := .deep) Tryz.func95 (by kernel_rfl) ?_
  refine w129 hE hP ht (fun hn => ?_) (fun hn => ?_)
  · (conv => whnf); repeat' (first | ((first | refine bdec ?_ ?_ | refine bnot ?_ ?_ | refine bsel_intro ?_ ?_ | skip) <;> intro hc <;> (try simp (disch := omega) only [nm, wrapI] at hc) <;> conv => whnf) | (refine .head _ rfl (by kernel_rfl) ?_; conv => whnf) | (refine w130 ?_; conv => whnf) | (apply pcall; (focus (intro _ _ hk; first | exact w130 hk)); conv => whnf) | (refine And.intro ?_ ?_; (focus ((first | omega | decide | (simp (disch := omega) only [nm, wrapI] <;> omega) | (simp [strOf, nm] <;> omega) | exact Nat.le_of_ble_eq_true rfl | rfl); done)); conv => whnf) | (rw [vv]; conv => whnf) | (refine NilP.mk fun nb hnb => ?_; conv => whnf))
    · have : intO t = none := by
        cases he : intO t with
        | none => rfl
        | some n =>
          have hb := intO_bound he
          rw [← (intO_nB he).2] at hb
          simp_all [inB]
      rw [this] at h; exact h
    · rw [nB_yes hn (by simpa [inB] using hc)] at h; exact h
  · have : intO t = none := by
      cases he : intO t with
      | none => rfl
      | some n => rw [(intO_nB he).1] at hn; cases hn
    rw [this] at h
    (conv => whnf); repeat' (first | ((first | refine bdec ?_ ?_ | refine bnot ?_ ?_ | refine bsel_intro ?_ ?_ | skip) <;> intro hc <;> (try simp (disch := omega) only [nm, wrapI] at hc) <;> conv => whnf) | (refine .head _ rfl (by kernel_rfl) ?_; conv => whnf) | (refine And.intro ?_ ?_; (focus ((first | omega | decide | (simp (disch := omega) only [nm, wrapI] <;> omega) | (simp [strOf, nm] <;> omega) | exact Nat.le_of_ble_eq_true rfl | rfl); done)); conv => whnf) | (rw [vv]; conv => whnf) | (refine NilP.mk fun nb hnb => ?_; conv => whnf))
    exact h
end Go.Proofs.SL
set_option linter.unusedVariables false
set_option linter.unusedSimpArgs false
set_option maxRecDepth 100000
set_option maxHeartbeats 8000000
namespace Go.Proofs.SL
open Go Go.Proofs Go.Proofs.EN Go.Proofs.VT
variable {T : Tabs}
/-! ### The words of a text: what stands between blanks -/
def wordsGo (cur : Str) : Str → List Str
  | [] => if cur.isEmpty then [] else [cur]
  | c :: r => if c.toNat = 32 then (if cur.isEmpty then wordsGo [] r else cur :: wordsGo [] r) else wordsGo (cur ++ [c]) r
def words (t : Str) : List Str := wordsGo [] t
theorem drop_consG {s : Str} {i : Nat} (h : i < s.length) : s.drop i = s[i]?.getD 0 :: s.drop (i + 1) := by
  rw [List.drop_eq_getElem_cons h]; simp [h]
theorem sl_snoc {t : Str} {s i : Nat} (hs : s ≤ i) (hi : i < t.length) : (t.take (i + 1)).drop s = (t.take i).drop s ++ [t[i]?.getD 0] := by
  rw [List.take_add_one, List.drop_append, List.length_take, show s - min i t.length = 0 by omega]
  simp [hi]
theorem sl_nil {t : Str} {s : Nat} : (t.take s).drop s = [] := by simp
theorem sl_ne {t : Str} {s i : Nat} (h : s < i) (hi : i ≤ t.length) : ((t.take i).drop s).isEmpty = false := by
  rw [List.isEmpty_eq_false_iff]
  intro hn
  have := congrArg List.length hn
  simp at this
  omega
def WP (t : Str) (a : Nat × Nat × List Str) : Prop :=
  a.2.1 ≤ a.1 ∧ a.2.2.length ≤ a.1 ∧ ((a.1 ≤ t.length ∧ a.2.2 ++ wordsGo ((t.take a.1).drop a.2.1) (t.drop a.1) = words t) ∨ (a.1 = t.length + 1 ∧ a.2.2 = words t))
theorem WP_end {t : Str} {s : Nat} {ws : List Str} (h : WP t (t.length, s, ws)) : words t = if s < t.length then ws ++ [(t.take t.length).drop s] else ws := by
  obtain ⟨h1, h2, h3 | h3⟩ := h
  · simp only at h1 h2 h3
    rw [List.drop_of_length_le (Nat.le_refl _), wordsGo] at h3
    rw [← h3.2]
    by_cases hs : s < t.length
    · rw [sl_ne hs (Nat.le_refl _), if_pos hs]; simp
    · obtain rfl : s = t.length := by omega
      simp
  · simp only at h3; omega
theorem WP_sp {t : Str} {s i : Nat} {ws : List Str} (h : WP t (i, s, ws)) (hi : i < t.length) (hc : (t[i]?.getD 0).toNat = 32) : WP t (i + 1, i + 1, if s < i then ws ++ [(t.take i).drop s] else ws) := by
  obtain ⟨h1, h2, h3 | h3⟩ := h
  · simp only at h1 h2 h3
    rw [drop_consG hi, wordsGo, if_pos hc] at h3
    refine ⟨Nat.le_refl _, ?_, .inl ⟨by show i + 1 ≤ t.length; omega, ?_⟩⟩
    · show (if s < i then ws ++ [(t.take i).drop s] else ws).length ≤ i + 1
      split <;> (try simp) <;> omega
    · simp only [sl_nil]
      rw [← h3.2]
      by_cases hs : s < i
      · rw [sl_ne hs (by omega), if_pos hs]; simp
      · obtain rfl : s = i := by omega
        simp
  · simp only at h3; omega
theorem WP_ch {t : Str} {s i : Nat} {ws : List Str} (h : WP t (i, s, ws)) (hi : i < t.length) (hc : ¬ (t[i]?.getD 0).toNat = 32) : WP t (i + 1, s, ws) := by
  obtain ⟨h1, h2, h3 | h3⟩ := h
  · simp only at h1 h2 h3
    rw [drop_consG hi, wordsGo, if_neg hc] at h3
    refine ⟨by simp only; omega, by simp only; omega, .inl ⟨by simp only; omega, ?_⟩⟩
    simp only
    rw [← h3.2, sl_snoc h1 hi]
  · simp only at h3; omega
theorem w99 {t : Str} {Kr Kp : C → List Ob → R} (ht : t.length ≤ 16777216) (h : Kr (.row 0) [.row 9 .deep 0 (dStr (words t))]) : Wp T Tryz.prog tt 99 [.d (.str t)] [] Kr Kp := by
  refine go (k := 99) (own := true) (cap := .deep) Tryz.func99 (by kernel_rfl) ?_
  (conv => whnf); repeat' (first | ((first | refine bdec ?_ ?_ | refine bnot ?_ ?_ | refine bsel_intro ?_ ?_ | skip) <;> intro hc <;> (try simp (disch := omega) only [nm, wrapI] at hc) <;> conv => whnf) | (refine .head _ rfl (by kernel_rfl) ?_; conv => whnf) | (refine And.intro ?_ ?_; (focus ((first | omega | decide | (simp (disch := omega) only [nm, wrapI] <;> omega) | (simp [strOf, nm] <;> omega) | exact Nat.le_of_ble_eq_true rfl | rfl); done)); conv => whnf) | (rw [vv]; conv => whnf) | (refine NilP.mk fun nb hnb => ?_; conv => whnf))
  refine loopOf (fun a : Nat × Nat × List Str => ⟨[(0, .d (.str t)), (3, .row 0), (4, .d (.int .i64 (a.2.1 : Int))), (5, .d (.int .i64 (a.1 : Int)))], [.row 9 .deep 0 (dStr a.2.2)]⟩) (WP t) (fun a => t.length + 2 - a.1) (0, 0, []) rfl ⟨by simp, by simp, .inl ⟨by simp, by simp [words]⟩⟩ ?_
  rintro ⟨i, s, ws⟩ I hW rec
  have hb := hW.1
  have hl := hW.2.1
  simp only at hb hl rec
  have hi : i ≤ t.length + 1 := by rcases hW.2.2 with h1 | h1 <;> simp only at h1 <;> omega
  have wr : IntKind.i64.wrap ((i : Int) + 1) = ((i + 1 : Nat) : Int) := by rw [wrapS (by omega)]
  (conv => whnf); repeat' (first | ((first | refine bdec ?_ ?_ | refine bnot ?_ ?_ | refine bsel_intro ?_ ?_ | skip) <;> intro hc <;> (try simp (disch := omega) only [nm, wrapI] at hc) <;> conv => whnf) | (refine .head _ rfl (by kernel_rfl) ?_; conv => whnf) | (refine And.intro ?_ ?_; (focus ((first | omega | decide | (simp (disch := omega) only [nm, wrapI] <;> omega) | (simp [strOf, nm] <;> omega) | exact Nat.le_of_ble_eq_true rfl | rfl); done)); conv => whnf) | (rw [vv]; conv => whnf) | (refine NilP.mk fun nb hnb => ?_; conv => whnf))
  · obtain rfl : i = t.length := by omega
    have := WP_end hW
    rw [if_pos (by omega)] at this
    refine eqI (rec (t.length + 1, t.length + 1, words t) ⟨Nat.le_refl _, by simp only [this, List.length_append, List.length_cons, List.length_nil]; omega, .inr ⟨rfl, rfl⟩⟩ (by simp only; omega)) ?_
    simp [wr, this, dStr]
  · obtain rfl : i = t.length := by omega
    have := WP_end hW
    rw [if_neg (by omega)] at this
    refine eqI (rec (t.length + 1, t.length + 1, words t) ⟨Nat.le_refl _, by simp only [this]; omega, .inr ⟨rfl, rfl⟩⟩ (by simp only; omega)) ?_
    simp [wr, this, dStr]
  · have := WP_sp hW (by omega) (by omega)
    rw [if_pos (by omega)] at this
    refine eqI (rec _ this (by simp only; omega)) ?_
    simp [wr, dStr]
  · have := WP_sp hW (by omega) (by omega)
    rw [if_neg (by omega)] at this
    refine eqI (rec _ this (by simp only; omega)) ?_
    simp [wr]
  · refine eqI (rec _ (WP_ch hW (by omega) (by omega)) (by simp only; omega)) ?_
    simp [wr]
  · rcases hW.2.2 with h1 | h1 <;> simp only at h1
    · omega
    · rw [h1.2]; exact h
end Go.Proofs.SL
set_option linter.unusedVariables false
set_option linter.unusedSimpArgs false
set_option maxRecDepth 100000
set_option maxHeartbeats 8000000
namespace Go.Proofs.SL
open Go Go.Proofs Go.Proofs.EN Go.Proofs.VT
/-! ### A text cut at a byte -/
def cutGo (b : UInt8) (cur : Str) : Str → List Str
  | [] => [cur]
  | c :: r => if c = b then cur :: cutGo b [] r else cutGo b (cur ++ [c]) r
def hdA (p : Str) : List Str → List Str
  | [] => []
  | x :: r => (p ++ x) :: r
theorem cutGo_hd (b : UInt8) : ∀ (s cur : Str), cutGo b cur s = hdA cur (cutGo b [] s)
  | [], cur => by simp [cutGo, hdA]
  | c :: s, cur => by
    by_cases h : c = b
    · simp [cutGo, hdA, h]
    · rw [cutGo, if_neg h, cutGo_hd b s (cur ++ [c]), cutGo, if_neg h, cutGo_hd b s ([] ++ [c])]
      cases cutGo b [] s with
      | nil => rfl
      | cons x r => simp [hdA]
theorem splitK_cut (b : UInt8) : ∀ (s : Str) (k : Nat), s.count b = k → Lib.splitK [b] 0 k s = cutGo b [] s
  | [], k, h => by
    obtain rfl : 0 = k := by simpa using h
    rfl
  | c :: s, k, h => by
    by_cases hc : c = b
    · subst hc
      rw [List.count_cons_self] at h
      obtain ⟨k, rfl⟩ : ∃ n, k = n + 1 := ⟨s.count c, h.symm⟩
      have hix : Lib.index (c :: s) [c] = 0 := by rw [Lib.index]; simp [List.isPrefixOf]
      rw [Lib.splitK, hix, cutGo, if_pos rfl, ← splitK_cut c s k (by omega)]
      simp
    · rw [List.count_cons_of_ne hc] at h
      rw [cutGo, if_neg hc, cutGo_hd, ← splitK_cut b s k h]
      have hp : ([b] : List UInt8).isPrefixOf (c :: s) = false := by simp [List.isPrefixOf, Ne.symm hc]
      have hix : Lib.index (c :: s) [b] = if Lib.index s [b] == -1 then -1 else Lib.index s [b] + 1 := by rw [Lib.index, hp]; simp
      cases k with
      | zero => rfl
      | succ k =>
        rw [Lib.splitK, Lib.splitK, hix]
        by_cases hm : Lib.index s [b] = -1
        · simp [hm, hdA]
        · have hge := Lib.index_ge s [b]
          have h1 : (Lib.index s [b] == -1) = false := by simp [hm]
          have h2 : (Lib.index s [b] + 1 == -1) = false := by rw [beq_eq_false_iff_ne]; omega
          simp only [h1, h2, Bool.false_eq_true, if_false]
          rw [show (Lib.index s [b] + 1).toNat = (Lib.index s [b]).toNat + 1 by omega]
          simp [hdA]
theorem words_cut : ∀ (s cur : Str), wordsGo cur s = (cutGo 32 cur s).filter (fun w => !decide (w = []))
  | [], cur => by cases cur <;> simp [wordsGo, cutGo]
  | c :: s, cur => by
    rw [wordsGo, cutGo]
    have e : c.toNat = 32 ↔ c = 32 := ⟨fun h => UInt8.toNat_inj.1 (by simpa using h), fun h => by rw [h]; rfl⟩
    by_cases h : c = 32
    · rw [if_pos (e.2 h), if_pos h]
      cases cur with
      | nil => simp [words_cut s []]
      | cons x r => simp [words_cut s []]
    · rw [if_neg (fun h' => h (e.1 h')), if_neg h, words_cut s _]
theorem cutGo_lens (b : UInt8) : ∀ (s cur : Str), Lib.lens (cutGo b cur s) + (cutGo b cur s).length = cur.length + s.length + 1
  | [], cur => by simp [cutGo, Lib.lens]
  | c :: s, cur => by
    rw [cutGo]
    split
    · have := cutGo_lens b s []
      simp only [Lib.lens, List.map_cons, List.sum_cons, List.length_cons, List.length_nil] at this ⊢
      omega
    · have := cutGo_lens b s (cur ++ [c])
      simp only [List.length_append, List.length_cons, List.length_nil] at this ⊢
      omega
theorem lens_mem : ∀ {ws : List Str} {w : Str}, w ∈ ws → w.length ≤ Lib.lens ws
  | x :: r, w, h => by
    have e : Lib.lens (x :: r) = x.length + Lib.lens r := by simp [Lib.lens]
    cases h with
    | head => omega
    | tail _ h => have := lens_mem h; omega
theorem words_mem {t w : Str} (h : w ∈ words t) : w.length ≤ t.length := by
  rw [words, words_cut] at h
  have h1 := lens_mem ((List.mem_filter.1 h).1)
  have h2 := cutGo_lens 32 t []
  have h3 : 0 < (cutGo 32 [] t).length := List.length_pos_of_mem ((List.mem_filter.1 h).1)
  simp only [List.length_nil] at h2
  omega
theorem words_len (t : Str) : (words t).length ≤ t.length + 1 := by
  rw [words, words_cut]
  have h1 := List.length_filter_le (fun w => !decide (w = [])) (cutGo 32 [] t)
  have h2 := cutGo_lens 32 t []
  simp only [List.length_nil] at h2
  omega
end Go.Proofs.SL
set_option linter.unusedVariables false
set_option linter.unusedSimpArgs false
set_option maxRecDepth 100000
set_option maxHeartbeats 8000000
namespace Go.Proofs.SL
open Go Go.Proofs Go.Proofs.EN Go.Proofs.VT Go.Shelf Go.RowKit Go.Lib Go.Sort
variable {T : Tabs}
theorem gives98 (x : ByteArray) (W : World) : FnGives Tryz.prog 98 #[] #[.string x] (.bool x.toList.isEmpty) W := by
  show Calls Tryz.prog 98 #[.string x] W _
  go_enter Tryz.func98, Tryz.ntmps98
  go_wp2
  go_ret
  exact ⟨rfl, 0, rfl⟩
/-- What stands in a variable of the library: how long what is sought may be. -/
def HasMax (T : Tabs) : Prop := ∀ w, T.ok w → ∃ m, w.cell? ⟨0, 0, none⟩ = some (.int .i64 m)
def blank : ByteArray := ⟨#[32]⟩
def parts (s : ByteArray) : List ByteArray := Lib.splitB blank 0 (Lib.countB s blank) s
def kept (s : ByteArray) : List ByteArray := (parts s).filter fun x => !x.toList.isEmpty
theorem parts_len (s : ByteArray) : (parts s).length = Lib.countB s blank + 1 := Lib.splitB_all blank (by decide) 0 _ s rfl
theorem wordsOf_at (s : ByteArray) (hs : s.size ≤ 16777216) (m : Int) (w : World) (hm : w.cell? ⟨0, 0, none⟩ = some (.int .i64 m)) :
    Calls Tryz.prog 61 #[.string s] w fun e w' => e = .returned (.slice (some ⟨w.heap.size, 0, none⟩) (kept s).length (parts s).length) ∧ Below w.heap.size w w' ∧ w.heap.size < w'.heap.size ∧
      ∀ j, j < (kept s).length → w'.cell? ⟨w.heap.size, j, none⟩ = some (.string ((kept s)[j]!)) := by
  have eg : ∀ args w, (callFunc 98 args).run Tryz.prog w = .ok (.enter 98 args) w := enters_of Tryz.func98 (by kernel_rfl) rfl
  have hsp := Tryz.strings_Split s blank m w (by omega) hm (by decide)
  have hcl := Lib.countB_le blank (by decide) s.size s (Nat.le_refl _)
  have hw1 : ∀ (j : Nat), j < (parts s).toArray.size → (w.alloc (.cells ((parts s).map Value.string).toArray 9)).cell? ⟨w.heap.size, 0 + j, none⟩ = some (.string (parts s).toArray[j]!) ∧ (w.alloc (.cells ((parts s).map Value.string).toArray 9)).frozen? ⟨w.heap.size, 0 + j, none⟩ = false := by
    intro j hj
    have hj' : j < (parts s).length := by simpa using hj
    constructor
    · rw [World.cell?_alloc_new]; simp [hj']
    · exact World.frozen?_alloc_new _ _ _ _
  have hdf := Tryz.slices_DeleteFunc Value.string (fun _ => rfl) (fun x => x.toList.isEmpty) 98 #[] eg ByteArray.empty (fun w => Tryz.zeroValue9 w) w.heap.size 0 (parts s).length (parts s).toArray (w.alloc (.cells ((parts s).map Value.string).toArray 9))
    (fun W x _ => gives98 x W) (fun n os dk x _ => gives98 x _) hw1 (by simp [parts_len]; omega) (by simp)
  have e1 : (parts s).toArray.size = Lib.countB s blank + 1 := by simp [parts_len]
  have e2 : (parts s).length = Lib.countB s blank + 1 := parts_len s
  change Calls Tryz.prog 96 _ _ _ at hdf
  rw [e1, e2] at hdf
  generalize hn0 : Lib.countB s blank + 1 = n0 at *
  have ek : (List.filter (fun x => !x.toList.isEmpty) (parts s).toArray.toList) = kept s := by simp [kept]
  rw [ek] at hdf
  rw [e2]
  change Calls Tryz.prog 97 _ _ (fun e w' => e = _ ∧ w' = w.alloc (.cells ((parts s).map Value.string).toArray 9)) at hsp
  have hkn : (kept s).length ≤ n0 := by rw [← e2]; exact List.length_filter_le _ _
  clear hcl
  generalize hW : w.alloc (.cells ((parts s).map Value.string).toArray 9) = W at hdf hsp
  rw [hW] at hw1
  have hB : Below w.heap.size w W := hW ▸ (Below.refl _ _).alloc (Nat.le_refl _) _
  have hsW : w.heap.size < W.heap.size := by rw [← hW]; simp
  generalize kept s = ks at hdf hkn ⊢
  go_enter Tryz.func61, Tryz.ntmps61
  go_wp2_with (first | (go_at_call 97; refine hsp.mono ?_; rintro e w' ⟨rfl, rfl⟩) | (go_at_call 96; refine hdf.mono ?_; rintro e w' ⟨rfl, q, rfl⟩))
  go_ret
  refine ⟨rfl, below_putRow hB (Nat.le_refl _), by simpa using hsW, fun j hj => ?_⟩
  have := cell?_putRow Value.string (Sort.ahead w' q) w.heap.size 0 (parts s).toArray (ks ++ List.replicate (n0 - ks.length) ByteArray.empty).toArray (fun j hj => hw1 j hj) (by rw [e1]; simp; omega) j (by simp; omega)
  rw [Nat.zero_add] at this
  rw [this]
  congr 2
  simp [hj, List.getElem?_append_left]
theorem kept_words (t : Str) : (kept ⟨t.toArray⟩).map (·.data.toList) = words t := by
  have h1 := Lib.splitB_data blank 0 (Lib.countB ⟨t.toArray⟩ blank) ⟨t.toArray⟩
  have h2 : Lib.countB ⟨t.toArray⟩ blank = t.count 32 := by
    show Lib.count _ _ = _
    exact Lib.count_one 32 t
  have h3 : Lib.splitK [32] 0 (t.count 32) t = cutGo 32 [] t := splitK_cut 32 t _ rfl
  rw [words, words_cut, ← h3, ← h2]
  have h4 : Lib.splitK [32] 0 (Lib.countB ⟨t.toArray⟩ blank) t = (parts ⟨t.toArray⟩).map (·.data.toList) := h1.symm
  rw [h4, kept, List.filter_map]
  congr 1
  apply List.filter_congr
  intro x _
  simp only [Function.comp_apply, Lib.toList_data]
  cases x.data.toList <;> simp
theorem w61 {t : Str} {Kr Kp : C → List Ob → R} (hM : HasMax T) (ht : t.length ≤ 16777216) (h : Kr (.d (.list 9 (dStr (words t)))) []) : Wp T Tryz.prog tt 61 [.d (.str t)] [] Kr Kp := by
  refine Wp.ofPure (enters_of Tryz.func61 (by kernel_rfl) rfl) (fun i hi => ?_) rfl (fun w S vs hS hT hl hv => ?_) h
  · match i, hi with
    | 0, _ => rfl
  · match vs, hl with
    | [v0], _ =>
      obtain rfl : v0 = .string ⟨t.toArray⟩ := str_of (hv 0 (by simp))
      obtain ⟨m, hm⟩ := hM w hT
      refine (wordsOf_at ⟨t.toArray⟩ (by simpa [ByteArray.size] using ht) m w hm).mono fun e w' ⟨he, hB, hsz, hc⟩ => ⟨_, he, kept_below hB, .d _ _ ?_⟩
      have hk := kept_words t
      have hl : (kept ⟨t.toArray⟩).length = (words t).length := by rw [← hk]; simp
      have hwl := words_len t
      rw [hl, show (words t).length = (dStr (words t)).length by simp]
      refine .list _ ⟨.str, [.str], 16⟩ _ _ _ w.heap.size 0 (fun i _ => .string ((kept ⟨t.toArray⟩)[i]!)) rfl rfl (by simp) ?_ ?_ (fun i hi => ?_) (fun _ => ⟨rfl, .inr ⟨Nat.le_refl _, hsz⟩⟩) (fun i j hi hj => ?_) (fun i j hi hj => ?_)
      · simp only [dStr_len]; rw [← hl]; exact List.length_filter_le _ _
      · simp only [dStr_len, big]; omega
      · have hi' : i < (words t).length := by simpa using hi
        simp [dStr, hi', fitsAll, CK.fits]
      · obtain rfl : j = 0 := by simpa using hj
        have := hc i (by rw [hl]; simpa using hi)
        simpa using this
      · obtain rfl : j = 0 := by simpa using hj
        have hi' : i < (words t).length := by simpa using hi
        have e : ((dStr (words t)).getD i []).getD 0 .z = .str (words t)[i] := by simp [dStr, hi']
        rw [e]
        have e2 : (words t)[i] = ((kept ⟨t.toArray⟩)[i]!).data.toList := by
          have hi2 : i < (kept ⟨t.toArray⟩).length := by omega
          have e3 : (words t)[i]? = some (((kept ⟨t.toArray⟩)[i]!).data.toList) := by rw [← hk]; simp [hi2]
          rw [List.getElem?_eq_getElem hi'] at e3
          exact Option.some.inj e3
        have h5 := words_mem (List.getElem_mem hi')
        have := Rep.str (tt := tt) (w := w') (S := fun b => S b ∨ (w.heap.size ≤ b ∧ b < w'.heap.size)) (words t)[i] (by simp only [big]; omega)
        rw [e2] at this ⊢
        simpa using this
end Go.Proofs.SL
set_option linter.unusedVariables false
set_option linter.unusedSimpArgs false
set_option maxRecDepth 100000
set_option maxHeartbeats 8000000
namespace Go.Proofs.SL
open Go Go.Proofs Go.Proofs.EN Go.Proofs.VT
variable {T : Tabs}
/-! ### Joined texts -/
theorem flatten_take (L : List Str) : ∀ i, (L.take i).flatten.length ≤ L.flatten.length := by
  induction L with
  | nil => intro i; simp
  | cons x L ih =>
    intro i
    cases i with
    | zero => simp
    | succ i => simp only [List.take_succ_cons, List.flatten_cons, List.length_append]; have := ih i; omega
theorem join_le (l : List Str) (s : Str) (i : Nat) : (Lib.join (l.take i) s).length ≤ (Lib.join l s).length := by
  cases l with
  | nil => simp
  | cons x r =>
    cases i with
    | zero => simp [Lib.join_nil]
    | succ i =>
      rw [List.take_succ_cons, Lib.join_cons, Lib.join_cons, List.length_append, List.length_append]
      have : (Lib.joinTail s (r.take i)).length ≤ (Lib.joinTail s r).length := by
        unfold Lib.joinTail
        rw [List.map_take]
        exact flatten_take _ i
      omega
theorem join_snoc (l : List Str) (s : Str) (i : Nat) (hi : i < l.length) :
    Lib.join (l.take (i + 1)) s = (if 0 < i then Lib.join (l.take i) s ++ s else Lib.join (l.take i) s) ++ l[i]?.getD [] := by
  rw [List.take_add_one, List.getElem?_eq_getElem hi]
  by_cases h0 : i = 0
  · subst h0
    simp [Lib.join_one, Lib.join_nil]
  · rw [if_pos (by omega)]
    have hne : l.take i ≠ [] := by
      intro h
      have := congrArg List.length h
      rw [List.length_take, List.length_nil] at this; omega
    generalize l.take i = xs at hne
    cases xs with
    | nil => exact absurd rfl hne
    | cons x r => simp [Lib.join_cons, Lib.joinTail]
theorem w80 {ws : List Str} {s : Str} {Kr Kp : C → List Ob → R} (hb : (Lib.join ws s).length ≤ 4294967296) (h : Kr (.d (.str (Lib.join ws s))) []) : Wp T Tryz.prog tt 80 [.d (.list 9 (dStr ws)), .d (.str s)] [] Kr Kp := by
  refine go (k := 80) (own := true) (cap := .deep) Tryz.func80 (by kernel_rfl) ?_
  (conv => whnf); repeat' (first | ((first | refine bdec ?_ ?_ | refine bnot ?_ ?_ | refine bsel_intro ?_ ?_ | skip) <;> intro hc <;> (try simp (disch := omega) only [nm, wrapI] at hc) <;> conv => whnf) | (refine .head _ rfl (by kernel_rfl) ?_; conv => whnf) | (refine And.intro ?_ ?_; (focus ((first | omega | decide | (simp (disch := omega) only [nm, wrapI] <;> omega) | (simp [strOf, nm] <;> omega) | exact Nat.le_of_ble_eq_true rfl | rfl); done)); conv => whnf) | (rw [vv]; conv => whnf) | (refine NilP.mk fun nb hnb => ?_; conv => whnf))
  refine loopOf (fun i : Nat => ⟨[(0, .d (.list 9 (dStr ws))), (1, .d (.str s)), (5, .d (.str (Lib.join (ws.take i) s))), (6, .d (.int .i64 (i : Int)))], []⟩) (fun i => i ≤ ws.length) (fun i => ws.length - i) 0 (by simp [Lib.join_nil]) (by omega) ?_
  intro i I hi rec
  have h1 := join_le ws s (i + 1)
  have h2 : i < ws.length → (0 < i → (Lib.join (ws.take i) s).length + s.length + (ws[i]?.getD []).length ≤ 4294967296) ∧ (¬ 0 < i → (Lib.join (ws.take i) s).length + (ws[i]?.getD []).length ≤ 4294967296) := fun hi => by
    rw [join_snoc ws s i hi, List.length_append] at h1
    constructor <;> intro h0
    · rw [if_pos h0, List.length_append] at h1; omega
    · rw [if_neg h0] at h1; omega
  (conv => whnf); repeat' (first | ((first | refine bdec ?_ ?_ | refine bnot ?_ ?_ | refine bsel_intro ?_ ?_ | skip) <;> intro hc <;> (try simp (disch := omega) only [nm, wrapI] at hc) <;> conv => whnf) | (refine .head _ rfl (by kernel_rfl) ?_; conv => whnf) | (refine And.intro ?_ ?_; (focus ((first | omega | decide | (simp (disch := omega) only [nm, wrapI] <;> omega) | (simp [strOf, nm] <;> omega) | exact Nat.le_of_ble_eq_true rfl | rfl); done)); conv => whnf) | (rw [vv]; conv => whnf) | (refine NilP.mk fun nb hnb => ?_; conv => whnf))
  · refine eqI (rec (i + 1) (by omega) (by omega)) ?_
    rw [join_snoc ws s i (by omega), if_pos (by omega)]
    simp (disch := omega) only [nm, wrapS]
  · refine eqI (rec (i + 1) (by omega) (by omega)) ?_
    rw [join_snoc ws s i (by omega), if_neg (by omega)]
    simp (disch := omega) only [nm, wrapS]
  · rw [List.take_of_length_le (by omega)]; exact h
end Go.Proofs.SL
set_option linter.unusedVariables false
set_option linter.unusedSimpArgs false
set_option maxRecDepth 100000
set_option maxHeartbeats 8000000
namespace Go.Proofs.SL
open Go Go.Proofs Go.Proofs.EN Go.Proofs.VT
variable {T : Tabs}
theorem w158 : ∀ (N : Nat) {ss : List QSel} {Kr Kp : C → List Ob → R}, qCnt ss < N → vpL ss → (textT ss).length ≤ 1000000 → (h : Kr (.d (.str (textT ss))) []) → Wp T Tryz.prog tt 158 [.d (dSS ss)] [] Kr Kp := by
  intro N
  induction N with
  | zero =>
    intro ss Kr Kp hq hv hl h
    omega
  | succ N ih =>
    intro ss Kr Kp hq hv hl h
    have hl0 : (selsT ss).length + 3 ≤ 1000000 := by simp only [textT, List.length_append, List.length_cons, List.length_nil] at hl; omega
    refine go (k := 158) (own := true) (cap := .deep) Tryz.func158 (by kernel_rfl) ?_
    (conv => whnf); repeat' (first | ((first | refine bdec ?_ ?_ | refine bnot ?_ ?_ | refine bsel_intro ?_ ?_ | skip) <;> intro hc <;> (try simp (disch := omega) only [nm, nq, Nat.reduceAdd, wrapI] at hc) <;> conv => whnf) | (refine .head _ rfl (by kernel_rfl) ?_; conv => whnf) | (refine And.intro ?_ ?_; (focus ((first | omega | decide | (simp (disch := omega) only [nm, nq, Nat.reduceAdd, wrapI] <;> omega) | (simp [strOf, nm, nq, Nat.reduceAdd] <;> omega) | exact Nat.le_of_ble_eq_true rfl | rfl); done)); conv => whnf) | (rw [vv]; conv => whnf) | (refine NilP.mk fun nb hnb => ?_; conv => whnf))
    refine loopOf (fun i : Nat => ⟨[(0, .d (dSS ss)), (3, .d (.str ([123] ++ selsT (ss.take i)))), (4, .d (.int .i64 (i : Int)))], []⟩) (fun i => i ≤ ss.length) (fun i => ss.length - i) 0 (by simp [selsT_nil]) (by omega) ?_
    intro i I hi rec
    obtain ⟨x, hx⟩ : ∃ x, (ss[i]?).getD default = x := ⟨_, rfl⟩
    have hxs := fun h => selsT_succ (of_getD hx h)
    have ht1 := selsT_take ss i
    have ht2 := selsT_take ss (i + 1)
    have hxl : i < ss.length → (selsT (ss.take i)).length + (selT x).length + 1 ≤ (selsT ss).length := fun h => by rw [hxs h] at ht2; simp only [List.length_append, List.length_cons] at ht2; omega
    clear ht2
    have hm : i < ss.length → ownP x ∧ vpL x.sels ∧ qCnt x.sels < N := fun h => by
      have hm := List.mem_of_getElem? (of_getD hx h)
      have := qCnt_mem hm
      have h2 := vpL_all.1 hv x hm
      exact ⟨h2.1, h2.2, by omega⟩
    have hs : x.sels ≠ [] → (textT x.sels).length ≤ (selT x).length := fun e => by
      rw [selT_eq, if_pos (List.length_pos_iff.2 e), textT]
      simp only [List.length_append, List.length_cons, List.length_nil]; omega
    (conv => whnf); repeat' (first | ((first | refine bdec ?_ ?_ | refine bnot ?_ ?_ | refine bsel_intro ?_ ?_ | skip) <;> intro hc <;> (try simp (disch := omega) only [nm, nq, Nat.reduceAdd, hx, wrapI] at hc) <;> conv => whnf) | (refine .head _ rfl (by kernel_rfl) ?_; conv => whnf) | (refine (fun hq => wpArgs (xs' := [cSel x]) (by simp only [nm, nq, Nat.reduceAdd, hx]) (w176 (hm (by omega)).1 (by have := hxl (by omega); omega) (fun he hk => ih (hm (by omega)).2.2 (hm (by omega)).2.1 (by have := hs he; have := hxl (by omega); omega) hk) hq)) ?_; conv => whnf) | (apply pcall; (focus (intro _ _ hk; first | exact (fun hq => wpArgs (xs' := [cSel x]) (by simp only [nm, nq, Nat.reduceAdd, hx]) (w176 (hm (by omega)).1 (by have := hxl (by omega); omega) (fun he hk => ih (hm (by omega)).2.2 (hm (by omega)).2.1 (by have := hs he; have := hxl (by omega); omega) hk) hq)) hk)); conv => whnf) | (refine And.intro ?_ ?_; (focus ((first | omega | decide | (simp (disch := omega) only [nm, nq, Nat.reduceAdd, hx, wrapI] <;> omega) | (simp [strOf, nm, nq, Nat.reduceAdd, hx] <;> omega) | exact Nat.le_of_ble_eq_true rfl | rfl); done)); conv => whnf) | (rw [vv]; conv => whnf) | (refine NilP.mk fun nb hnb => ?_; conv => whnf))
    · refine eqI (rec (i + 1) (by omega) (by omega)) ?_
      rw [hxs (by omega), wrapS (by omega)]
      simp
    · rw [List.take_of_length_le (by omega)]
      refine krS h ?_
      simp [textT]
/-! ### A document's text -/
def kwT (k : Int) : Str := if k = 1 then [113, 117, 101, 114, 121] else if k = 2 then [109, 117, 116, 97, 116, 105, 111, 110] else if k = 3 then [102, 114, 97, 103, 109, 101, 110, 116] else []
def defT (x : QDef) : Str := kwT x.1 ++ (if x.2.1 = [] then [] else 32 :: x.2.1) ++ (if x.1 = 3 then [32, 111, 110, 32] ++ x.2.2.1 else []) ++ [32] ++ textT x.2.2.2
def docT (d : QDoc) : Str := Lib.join (d.map defT) [32]
def defP (x : QDef) : Prop := (x.1 = 0 ∨ x.1 = 1 ∨ x.1 = 2 ∨ x.1 = 3) ∧ vpL x.2.2.2 ∧ (defT x).length ≤ 1000000
theorem w144 {d : QDoc} {Kr Kp : C → List Ob → R} (hn : d.length ≤ 100) (hd : ∀ x ∈ d, defP x) (hl : (docT d).length ≤ 1000000000) (h : Kr (.d (.str (docT d))) []) : Wp T Tryz.prog tt 144 [cDoc d] [] Kr Kp := by
  refine go (k := 144) (own := true) (cap := .deep) Tryz.func144 (by kernel_rfl) ?_
  (conv => whnf); repeat' (first | ((first | refine bdec ?_ ?_ | refine bnot ?_ ?_ | refine bsel_intro ?_ ?_ | skip) <;> intro hc <;> (try simp (disch := omega) only [nm, nq, Nat.reduceAdd, wrapI] at hc) <;> conv => whnf) | (refine .head _ rfl (by kernel_rfl) ?_; conv => whnf) | (refine And.intro ?_ ?_; (focus ((first | omega | decide | (simp (disch := omega) only [nm, nq, Nat.reduceAdd, wrapI] <;> omega) | (simp [strOf, nm, nq, Nat.reduceAdd] <;> omega) | exact Nat.le_of_ble_eq_true rfl | rfl); done)); conv => whnf) | (rw [vv]; conv => whnf) | (refine NilP.mk fun nb hnb => ?_; conv => whnf))
  refine loopOf (fun i : Nat => ⟨[(1, .ref 0 0), (3, .row 1), (4, .d (.int .i64 (i : Int)))], [.box [.d (.list 192 (dQDefs 222 237 201 d))], .row 9 .deep 0 (dStr ((d.take i).map defT))]⟩) (fun i => i ≤ d.length) (fun i => d.length - i) 0 rfl (by omega) ?_
  intro i I hi rec
  obtain ⟨⟨k, n, o, ss⟩, hx⟩ : ∃ x, (d[i]?).getD default = x := ⟨_, rfl⟩
  by_cases hlt : i < d.length
  · obtain ⟨hk, hv, hdl⟩ := hd _ (List.mem_of_getElem? (of_getD hx hlt))
    simp only at hk hv hdl
    have hts : (textT ss).length ≤ 1000000 := by simp only [defT, List.length_append] at hdl; omega
    have hns : n.length ≤ 1000000 := by
      rcases Decidable.em (n = []) with e | e
      · rw [e]; simp
      · simp only [defT, List.length_append, if_neg e, List.length_cons] at hdl; omega
    have hos : k = 3 → o.length ≤ 1000000 := fun e => by simp only [defT, List.length_append, if_pos e] at hdl; omega
    rcases hk with rfl | rfl | rfl | rfl
    all_goals
      (conv => whnf); repeat' (first | ((first | refine bdec ?_ ?_ | refine bnot ?_ ?_ | refine bsel_intro ?_ ?_ | skip) <;> intro hc <;> (try simp (disch := omega) only [nm, nq, Nat.reduceAdd, hx, Int.reduceToNat, List.getElem?_cons_zero, List.getElem?_cons_succ, Option.getD_some, getS_str, wrapI] at hc) <;> conv => whnf) | (refine .head _ rfl (by kernel_rfl) ?_; conv => whnf) | (refine (fun hq => wpArgs (xs' := [.d (dSS ss)]) (by simp only [nm, nq, Nat.reduceAdd, hx]) (w158 (qCnt ss + 1) (Nat.lt_succ_self _) hv hts hq)) ?_; conv => whnf) | (apply pcall; (focus (intro _ _ hk; first | exact (fun hq => wpArgs (xs' := [.d (dSS ss)]) (by simp only [nm, nq, Nat.reduceAdd, hx]) (w158 (qCnt ss + 1) (Nat.lt_succ_self _) hv hts hq)) hk)); conv => whnf) | (refine And.intro ?_ ?_; (focus ((first | omega | decide | (simp (disch := omega) only [nm, nq, Nat.reduceAdd, hx, Int.reduceToNat, List.getElem?_cons_zero, List.getElem?_cons_succ, Option.getD_some, getS_str, wrapI] <;> omega) | (simp [strOf, nm, nq, Nat.reduceAdd, hx, Int.reduceToNat, List.getElem?_cons_zero, List.getElem?_cons_succ, Option.getD_some, getS_str] <;> omega) | exact Nat.le_of_ble_eq_true rfl | rfl); done)); conv => whnf) | (rw [vv]; conv => whnf) | (refine NilP.mk fun nb hnb => ?_; conv => whnf))
      all_goals first
        | (exfalso; omega)
        | (refine eqI (rec (i + 1) (by omega) (by omega)) ?_
           rw [List.take_add_one, of_getD hx hlt, wrapS (by omega)]
           simp only [nm, nq, Nat.reduceAdd, hx, Int.reduceToNat, List.getElem?_cons_zero, List.getElem?_cons_succ, Option.getD_some, getS_str]
           simp [dStr, defT, kwT, *]; done)
  · (conv => whnf); repeat' (first | ((first | refine bdec ?_ ?_ | refine bnot ?_ ?_ | refine bsel_intro ?_ ?_ | skip) <;> intro hc <;> (try simp (disch := omega) only [nm, nq, Nat.reduceAdd, wrapI] at hc) <;> conv => whnf) | (refine .head _ rfl (by kernel_rfl) ?_; conv => whnf) | (refine (fun hq => wpArgs (xs' := [.d (.list 9 (dStr (d.map defT))), .d (.str [32])]) (by rw [List.take_of_length_le (by omega)]) (w80 (by show (docT d).length ≤ _; omega) hq)) ?_; conv => whnf) | (apply pcall; (focus (intro _ _ hk; first | exact (fun hq => wpArgs (xs' := [.d (.list 9 (dStr (d.map defT))), .d (.str [32])]) (by rw [List.take_of_length_le (by omega)]) (w80 (by show (docT d).length ≤ _; omega) hq)) hk)); conv => whnf) | (refine And.intro ?_ ?_; (focus ((first | omega | decide | (simp (disch := omega) only [nm, nq, Nat.reduceAdd, wrapI] <;> omega) | (simp [strOf, nm, nq, Nat.reduceAdd] <;> omega) | exact Nat.le_of_ble_eq_true rfl | rfl); done)); conv => whnf) | (rw [vv]; conv => whnf) | (refine NilP.mk fun nb hnb => ?_; conv => whnf))
    all_goals first
      | omega
      | exact h
end Go.Proofs.SL
