/- Contracts of functions of this program, by the evaluator EN. No conditions but those that each theorem states. -/
import Derived.Test.YtekcghhacpllaaaGreatDoorLP
import Derived.Test.YtekcghhacpllaaaGreatDoorGD
import Derived.Test.YtekcghhacpllaaaGreatDoorKJ
import Derived.Test.YtekcghhacpllaaaGreatDoorLD
set_option linter.unusedVariables false
set_option linter.unusedSimpArgs false
set_option maxRecDepth 100000
set_option maxHeartbeats 8000000
namespace Go.Proofs.SL
open Go Go.Proofs Go.Proofs.EN Go.Proofs.VT
variable {T : Tabs}
theorem flatS_take_le {α : Type} (f : α → Str) : ∀ (xs : List α) (i : Nat), ((xs.take i).map f).flatten.length ≤ (xs.map f).flatten.length
  | [], _ => by simp
  | _ :: _, 0 => by simp
  | x :: xs, i + 1 => by
    have := flatS_take_le f xs i
    simp only [List.take_succ_cons, List.map_cons, List.flatten_cons, List.length_append]; omega
theorem flatS_succ {α : Type} (f : α → Str) {xs : List α} {i : Nat} {x : α} (h : xs[i]? = some x) : ((xs.take (i + 1)).map f).flatten = ((xs.take i).map f).flatten ++ f x := by
  rw [List.take_add_one, h]; simp
theorem argsX_take : ∀ (xs : List QArg) (k n : Nat) (a : QArg), xs[n]? = some a → argsX k (xs.take (n + 1)) = argsX k (xs.take n) ++ argT (k + n) a
  | [], k, n, a, h => by simp at h
  | x :: xs, k, 0, a, h => by simp at h; subst h; simp [argsX]
  | x :: xs, k, n + 1, a, h => by
    have := argsX_take xs (k + 1) n a (by simpa using h)
    simp only [List.take_succ_cons, argsX, this, List.append_assoc]
    rw [show k + 1 + n = k + (n + 1) by omega]
theorem argsX_len : ∀ (xs : List QArg) (k n : Nat), (argsX k (xs.take n)).length ≤ (argsX k xs).length
  | [], k, n => by simp
  | x :: xs, k, 0 => by simp [argsX]
  | x :: xs, k, n + 1 => by
    have := argsX_len xs (k + 1) n
    simp only [List.take_succ_cons, argsX, List.length_append]; omega
theorem w176 {x : QSel} {Kr Kp : C → List Ob → R} (ho : ownP x) (hl : (selT x).length ≤ 1000000)
    (ih : ∀ {Kr Kp : C → List Ob → R}, x.sels ≠ [] → Kr (.d (.str (textT x.sels))) [] → Wp T Tryz.prog tt 158 [.d (dSS x.sels)] [] Kr Kp)
    (h : Kr (.d (.str (selT x))) []) : Wp T Tryz.prog tt 176 [cSel x] [] Kr Kp := by
  rw [selT_eq] at hl h
  have e0 : ownT x = headT x ++ argsX 0 x.args ++ (if 0 < x.args.length then [41] else []) ++ (x.dirs.map dirT).flatten := rfl
  have l1 : (headT x).length + (argsX 0 x.args).length + (x.dirs.map dirT).flatten.length ≤ 1000000 := by
    rw [e0] at hl; simp only [List.length_append] at hl; omega
  have l2 : 0 < x.sels.length → (headT x).length + (argsX 0 x.args).length + (x.dirs.map dirT).flatten.length + (textT x.sels).length + 1 ≤ 1000000 := fun h => by
    rw [e0, if_pos h] at hl; simp only [textT, List.length_append, List.length_cons, List.length_nil] at hl ⊢; omega
  have b1 : x.kind = 1 → x.alias.length + x.name.length ≤ 1000000 := fun e => by
    have : x.alias.length + x.name.length ≤ (headT x).length := by
      rw [headT, if_pos e]; split
      · rename_i h; rw [h]; simp
      · simp; omega
    omega
  have b2 : ¬ x.kind = 1 → x.name.length ≤ 1000000 := fun e => by
    have : x.name.length ≤ (headT x).length := by
      rw [headT, if_neg e]; split
      · simp; omega
      · split
        · rename_i h; rw [h]; simp
        · simp; omega
    omega
  refine go (k := 176) (own := true) (cap := .deep) Tryz.func176 (by kernel_rfl) ?_
  (conv => whnf); repeat' (first | ((first | refine bdec ?_ ?_ | refine bnot ?_ ?_ | refine bsel_intro ?_ ?_ | skip) <;> intro hc <;> (try simp (disch := omega) only [nm, nq, Nat.reduceAdd, wrapI] at hc) <;> conv => whnf) | (refine .head _ rfl (by kernel_rfl) ?_; conv => whnf) | (refine And.intro ?_ ?_; (focus ((first | omega | decide | (simp (disch := omega) only [nm, nq, Nat.reduceAdd, wrapI] <;> omega) | (simp [strOf, nm, nq, Nat.reduceAdd] <;> omega) | exact Nat.le_of_ble_eq_true rfl | rfl); done)); conv => whnf) | (rw [vv]; conv => whnf) | (refine NilP.mk fun nb hnb => ?_; conv => whnf))
  all_goals
    refine loopOf (fun i : Nat => ⟨[(1, .ref 0 0), (3, .d (.str (headT x ++ argsX 0 (x.args.take i)))), (4, .d (.int .i64 (i : Int)))], [.box [.d (.int .i64 x.kind), .d (.str x.alias), .d (.str x.name), .d (.list 222 (dQArgs x.args)), .d (.list 237 (dQDirs x.dirs)), .d (dSS x.sels)]]⟩) (fun i => i ≤ x.args.length) (fun i => x.args.length - i) 0 (by simp [headT, argsX, *]) (by omega) ?_
    intro i I hi rec
    obtain ⟨⟨an, ak, ai, at0⟩, ha⟩ : ∃ a, (x.args[i]?).getD default = a := ⟨_, rfl⟩
    have hva : i < x.args.length → valP (ak, ai, at0) := fun h => ho.1 (an, ak, ai, at0) (List.mem_of_getElem? (of_getD ha h))
    have hax : i < x.args.length → argsX 0 (x.args.take (i + 1)) = argsX 0 (x.args.take i) ++ argT i (an, ak, ai, at0) := fun h => argsX_take x.args 0 i _ (of_getD ha h) ▸ by rw [Nat.zero_add]
    have hal := argsX_len x.args 0 i
    have hal2 := argsX_len x.args 0 (i + 1)
    have hvl : i < x.args.length → (argsX 0 (x.args.take i)).length + an.length + (valT (ak, ai, at0)).length + 3 ≤ (argsX 0 x.args).length := fun h => by
      rw [hax h] at hal2
      simp only [argT, List.length_append] at hal2
      split at hal2 <;> simp at hal2 <;> omega
    clear hal2
    by_cases hlt : i < x.args.length
    · rcases Nat.eq_zero_or_pos i with h0 | h0
      · have hd : decide (0 < (i : Int)) = false := by rw [decide_eq_false_iff_not]; omega
        (conv => whnf); repeat' (first | ((first | refine bdec ?_ ?_ | refine bnot ?_ ?_ | refine bsel_intro ?_ ?_ | skip) <;> intro hc <;> (try simp (disch := omega) only [nm, nq, Nat.reduceAdd, ha, hd, Bool.false_eq_true, if_false, Int.reduceToNat, List.getElem?_cons_zero, List.getElem?_cons_succ, Option.getD_some, getS_str, wrapI] at hc) <;> conv => whnf) | (refine .head _ rfl (by kernel_rfl) ?_; conv => whnf) | (refine w50 ?_; conv => whnf) | (refine (fun hq => wpArgs (xs' := [.agg [.d (.int .i64 ak), .d (.int .i64 ai), .d (.str at0)]]) (by simp only [nm, nq, Nat.reduceAdd, ha]) (w143 (hva (by omega)) (by have := hvl (by omega); omega) hq)) ?_; conv => whnf) | (apply pcall; (focus (intro _ _ hk; first | exact w50 hk | exact (fun hq => wpArgs (xs' := [.agg [.d (.int .i64 ak), .d (.int .i64 ai), .d (.str at0)]]) (by simp only [nm, nq, Nat.reduceAdd, ha]) (w143 (hva (by omega)) (by have := hvl (by omega); omega) hq)) hk)); conv => whnf) | (refine And.intro ?_ ?_; (focus ((first | omega | decide | (simp (disch := omega) only [nm, nq, Nat.reduceAdd, ha, hd, Bool.false_eq_true, if_false, Int.reduceToNat, List.getElem?_cons_zero, List.getElem?_cons_succ, Option.getD_some, getS_str, wrapI] <;> omega) | (simp [strOf, nm, nq, Nat.reduceAdd, ha, hd, Bool.false_eq_true, if_false, Int.reduceToNat, List.getElem?_cons_zero, List.getElem?_cons_succ, Option.getD_some, getS_str] <;> omega) | exact Nat.le_of_ble_eq_true rfl | rfl); done)); conv => whnf) | (rw [vv]; conv => whnf) | (refine NilP.mk fun nb hnb => ?_; conv => whnf))
        all_goals try (exfalso; omega)
        refine eqI (rec (i + 1) (by omega) (by omega)) ?_
        rw [hax hlt, wrapS (by omega)]
        simp only [nm, nq, Nat.reduceAdd, ha, hd, Bool.false_eq_true, if_false, eq_self, if_true, Int.reduceToNat, List.getElem?_cons_zero, List.getElem?_cons_succ, Option.getD_some, getS_str]
        simp [argT, h0]
      · have hd : decide (0 < (i : Int)) = true := by rw [decide_eq_true_iff]; omega
        (conv => whnf); repeat' (first | ((first | refine bdec ?_ ?_ | refine bnot ?_ ?_ | refine bsel_intro ?_ ?_ | skip) <;> intro hc <;> (try simp (disch := omega) only [nm, nq, Nat.reduceAdd, ha, hd, eq_self, if_true, Int.reduceToNat, List.getElem?_cons_zero, List.getElem?_cons_succ, Option.getD_some, getS_str, wrapI] at hc) <;> conv => whnf) | (refine .head _ rfl (by kernel_rfl) ?_; conv => whnf) | (refine w50 ?_; conv => whnf) | (refine (fun hq => wpArgs (xs' := [.agg [.d (.int .i64 ak), .d (.int .i64 ai), .d (.str at0)]]) (by simp only [nm, nq, Nat.reduceAdd, ha]) (w143 (hva (by omega)) (by have := hvl (by omega); omega) hq)) ?_; conv => whnf) | (apply pcall; (focus (intro _ _ hk; first | exact w50 hk | exact (fun hq => wpArgs (xs' := [.agg [.d (.int .i64 ak), .d (.int .i64 ai), .d (.str at0)]]) (by simp only [nm, nq, Nat.reduceAdd, ha]) (w143 (hva (by omega)) (by have := hvl (by omega); omega) hq)) hk)); conv => whnf) | (refine And.intro ?_ ?_; (focus ((first | omega | decide | (simp (disch := omega) only [nm, nq, Nat.reduceAdd, ha, hd, eq_self, if_true, Int.reduceToNat, List.getElem?_cons_zero, List.getElem?_cons_succ, Option.getD_some, getS_str, wrapI] <;> omega) | (simp [strOf, nm, nq, Nat.reduceAdd, ha, hd, eq_self, if_true, Int.reduceToNat, List.getElem?_cons_zero, List.getElem?_cons_succ, Option.getD_some, getS_str] <;> omega) | exact Nat.le_of_ble_eq_true rfl | rfl); done)); conv => whnf) | (rw [vv]; conv => whnf) | (refine NilP.mk fun nb hnb => ?_; conv => whnf))
        all_goals try (exfalso; omega)
        refine eqI (rec (i + 1) (by omega) (by omega)) ?_
        rw [hax hlt, wrapS (by omega)]
        simp only [nm, nq, Nat.reduceAdd, ha, hd, Bool.false_eq_true, if_false, eq_self, if_true, Int.reduceToNat, List.getElem?_cons_zero, List.getElem?_cons_succ, Option.getD_some, getS_str]
        simp [argT, h0]
    · have hta : x.args.take i = x.args := List.take_of_length_le (by omega)
      rw [hta]
      clear rec hva hax hvl hal ha
      (conv => whnf); repeat' (first | ((first | refine bdec ?_ ?_ | refine bnot ?_ ?_ | refine bsel_intro ?_ ?_ | skip) <;> intro hc <;> (try simp (disch := omega) only [nm, nq, Nat.reduceAdd, wrapI] at hc) <;> conv => whnf) | (refine .head _ rfl (by kernel_rfl) ?_; conv => whnf) | (refine And.intro ?_ ?_; (focus ((first | omega | decide | (simp (disch := omega) only [nm, nq, Nat.reduceAdd, wrapI] <;> omega) | (simp [strOf, nm, nq, Nat.reduceAdd] <;> omega) | exact Nat.le_of_ble_eq_true rfl | rfl); done)); conv => whnf) | (rw [vv]; conv => whnf) | (refine NilP.mk fun nb hnb => ?_; conv => whnf))
      all_goals try (exfalso; omega)
      all_goals
        refine loopOf (fun i : Nat => ⟨[(1, .ref 0 0), (3, .d (.str (headT x ++ argsX 0 x.args ++ (if 0 < x.args.length then [41] else []) ++ ((x.dirs.take i).map dirT).flatten))), (5, .d (.int .i64 (i : Int)))], [.box [.d (.int .i64 x.kind), .d (.str x.alias), .d (.str x.name), .d (.list 222 (dQArgs x.args)), .d (.list 237 (dQDirs x.dirs)), .d (dSS x.sels)]]⟩) (fun i => i ≤ x.dirs.length) (fun i => x.dirs.length - i) 0 ?_ (by omega) ?_
        · first
            | (rw [if_pos (by omega)]; simp; done)
            | (rw [if_neg (by omega)]; simp; done)
        intro j J hj rec2
        obtain ⟨⟨yb, yk, yi, yt⟩, hy⟩ : ∃ y, (x.dirs[j]?).getD default = y := ⟨_, rfl⟩
        have hvy : j < x.dirs.length → valP (yk, yi, yt) := fun h => ho.2 (yb, yk, yi, yt) (List.mem_of_getElem? (of_getD hy h))
        have hyx := fun h => flatS_succ dirT (of_getD hy h)
        have hyt := flatS_take_le dirT x.dirs j
        have hyt2 := flatS_take_le dirT x.dirs (j + 1)
        have hyl : j < x.dirs.length → ((x.dirs.take j).map dirT).flatten.length + (valT (yk, yi, yt)).length + 12 ≤ (x.dirs.map dirT).flatten.length := fun h => by
          rw [hyx h] at hyt2
          simp only [dirT, List.length_append] at hyt2
          cases yb <;> simp only [Bool.false_eq_true, if_true, if_false, List.length_cons, List.length_nil] at hyt2 <;> omega
        clear hyt2
        have hif : (if 0 < x.args.length then [41] else ([] : Str)).length ≤ 1 := by split <;> simp
        cases yb
        all_goals
          (conv => whnf); repeat' (first | ((first | refine bdec ?_ ?_ | refine bnot ?_ ?_ | refine bsel_intro ?_ ?_ | skip) <;> intro hc <;> (try simp (disch := omega) only [nm, nq, Nat.reduceAdd, hy, eq_self, if_true, Bool.false_eq_true, if_false, Int.reduceToNat, List.getElem?_cons_zero, List.getElem?_cons_succ, Option.getD_some, getS_str, wrapI] at hc) <;> conv => whnf) | (refine .head _ rfl (by kernel_rfl) ?_; conv => whnf) | (refine w50 ?_; conv => whnf) | (refine (fun hq => wpArgs (xs' := [.agg [.d (.int .i64 yk), .d (.int .i64 yi), .d (.str yt)]]) (by simp only [nm, nq, Nat.reduceAdd, hy]) (w143 (hvy (by omega)) (by have := hyl (by omega); omega) hq)) ?_; conv => whnf) | (refine ih ?_ ?_ <;> conv => whnf) | (apply pcall; (focus (intro _ _ hk; first | exact w50 hk | exact (fun hq => wpArgs (xs' := [.agg [.d (.int .i64 yk), .d (.int .i64 yi), .d (.str yt)]]) (by simp only [nm, nq, Nat.reduceAdd, hy]) (w143 (hvy (by omega)) (by have := hyl (by omega); omega) hq)) hk | exact ih ?_ ?_ hk)); conv => whnf) | (refine And.intro ?_ ?_; (focus ((first | omega | decide | (simp (disch := omega) only [nm, nq, Nat.reduceAdd, hy, eq_self, if_true, Bool.false_eq_true, if_false, Int.reduceToNat, List.getElem?_cons_zero, List.getElem?_cons_succ, Option.getD_some, getS_str, wrapI] <;> omega) | (simp [strOf, nm, nq, Nat.reduceAdd, hy, eq_self, if_true, Bool.false_eq_true, if_false, Int.reduceToNat, List.getElem?_cons_zero, List.getElem?_cons_succ, Option.getD_some, getS_str] <;> omega) | exact Nat.le_of_ble_eq_true rfl | rfl); done)); conv => whnf) | (rw [vv]; conv => whnf) | (refine NilP.mk fun nb hnb => ?_; conv => whnf))
          all_goals first
            | (refine eqI (rec2 (j + 1) (by omega) (by omega)) ?_
               rw [hyx (by omega), wrapS (by omega)]
               simp only [nm, nq, Nat.reduceAdd, hy, eq_self, if_true, Bool.false_eq_true, if_false, Int.reduceToNat, List.getElem?_cons_zero, List.getElem?_cons_succ, Option.getD_some, getS_str]
               simp [dirT]; done)
            | (have h9 : 0 < (x.sels.length : Int) := ‹_›; rw [hc] at h9; simp at h9; done)
            | (rw [List.take_of_length_le (by omega)]
               refine krS h ?_
               rw [e0]
               first
                 | (rw [if_pos (show 0 < x.sels.length by omega), textT]; simp; done)
                 | (rw [if_neg (show ¬ 0 < x.sels.length by omega)]; simp; done))
end Go.Proofs.SL
