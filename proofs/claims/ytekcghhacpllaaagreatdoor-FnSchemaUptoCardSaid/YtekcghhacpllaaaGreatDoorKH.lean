/- Contracts of functions of this program, by the evaluator EN; part KH. No conditions but those that each theorem states. -/
import Derived.Test.YtekcghhacpllaaaGreatDoorKG
set_option linter.unusedVariables false
set_option linter.unusedSimpArgs false
set_option maxRecDepth 100000
set_option maxHeartbeats 8000000
namespace Go.Proofs.SL
open Go Go.Proofs Go.Proofs.EN Go.Proofs.VT
variable {T : Tabs}
theorem join_cons2 (a b : Str) (r : List Str) (s : Str) : Lib.join (a :: b :: r) s = a ++ s ++ Lib.join (b :: r) s := by
  simp [Lib.join]
theorem join_ty (t : Str) (l b : Bool) : Lib.join ((tyTok t l b).map (·.2.2)) [32] = tyT t l b := by
  cases l <;> cases b <;> simp [tyTok, tokN, tokP, tyT, Lib.join]
theorem join_line (w : Str) (xs : List ArgDef) (ty : Str) : Lib.join ((w :: xs.map wordA) ++ [[58], ty]) [32] = w ++ argsT xs ++ [32, 58, 32] ++ ty := by
  induction xs generalizing w with
  | nil => simp [Lib.join, argsT]
  | cons a xs ih =>
    have := ih (wordA a)
    simp only [List.map_cons, List.cons_append] at this ⊢
    rw [join_cons2, this]
    simp [argsT]
theorem tyTok_m (t : Str) (l b : Bool) : ∀ p ∈ tyTok t l b, p.1 ≠ 2 ∧ p.1 ≠ 3 := by
  cases l <;> cases b <;> simp [tyTok, tokN, tokP]
theorem tyTok_k (t : Str) (l b : Bool) (i : Nat) : (((tyTok t l b)[i]?).getD default).1 ≠ 2 ∧ (((tyTok t l b)[i]?).getD default).1 ≠ 3 := by
  cases h : (tyTok t l b)[i]? with
  | none => exact ⟨by decide, by decide⟩
  | some p => exact tyTok_m t l b p (List.mem_of_getElem? h)
theorem x40 {t : Str} {l b : Bool} {Kr Kp : C → List Ob → R} (ht : t.length ≤ 1048576) (h : Kr (.d (.str (tyT t l b))) []) : Wp T Tryz.prog tt 42 [.d (.list 74 (dToks (tyTok t l b)))] [] Kr Kp := by
  have := tyT_len t l b
  exact w42 (tyTok_k t l b) (by rw [join_ty]; omega) (by rw [join_ty]; exact h)
theorem w14 {ts : List TypeDef} {Kr Kp : C → List Ob → R} (hz : zTypeDefs ts ≤ 1048576) (h : ∀ ver, Kr (.tuple [.row 0, .d (.int .i64 (flR ts).2)]) [.row 9 .deep ver (dStr (flR ts).1)]) : Wp T Tryz.prog tt 14 [.agg [.d (.list 37 (dTypeDefs 40 68 ts))]] [] Kr Kp := by
  refine go (k := 14) (own := true) (cap := .deep) Tryz.func14 (by kernel_rfl) ?_
  (conv => whnf); repeat' (first | ((first | refine bdec ?_ ?_ | refine bnot ?_ ?_ | refine bsel_intro ?_ ?_ | skip) <;> intro hc <;> (try simp (disch := omega) only [nm, dArgDefs_len, dFieldDefs_len, dTypeDefs_len, dSchemas_len, dArgDefs_0, dArgDefs_1, dFieldDefs_0, dFieldDefs_1, dFieldDefs_2, dFieldDefs_3, dFieldDefs_4, dTypeDefs_0, dTypeDefs_1, dSchemas_0, Nat.reduceAdd, wrapI] at hc) <;> conv => whnf) | (refine .head _ rfl (by kernel_rfl) ?_; conv => whnf) | (refine w7 ?_; conv => whnf) | (apply pcall; (focus (intro _ _ hk; first | exact w7 hk)); conv => whnf) | (refine And.intro ?_ ?_; (focus ((first | omega | decide | exact Nat.le_of_ble_eq_true rfl | (simp (disch := omega) only [nm, dArgDefs_len, dFieldDefs_len, dTypeDefs_len, dSchemas_len, dArgDefs_0, dArgDefs_1, dFieldDefs_0, dFieldDefs_1, dFieldDefs_2, dFieldDefs_3, dFieldDefs_4, dTypeDefs_0, dTypeDefs_1, dSchemas_0, Nat.reduceAdd, wrapI] <;> omega) | (simp [strOf, nm, dArgDefs_len, dFieldDefs_len, dTypeDefs_len, dSchemas_len, dArgDefs_0, dArgDefs_1, dFieldDefs_0, dFieldDefs_1, dFieldDefs_2, dFieldDefs_3, dFieldDefs_4, dTypeDefs_0, dTypeDefs_1, dSchemas_0, Nat.reduceAdd] <;> omega) | rfl); done)); conv => whnf) | (rw [vv]; conv => whnf))
  · have hc : schB ts = false := by simpa using hc
    simpa [flR, hc, dStr] using h 0
  have hc2 : schB ts = true := by simp_all
  simp only [flR, hc2, if_true] at h
  refine loopOf (fun i : Nat => ⟨[(4, .row 0), (18, .d (.list 37 (dTypeDefs 40 68 ts))), (19, .d (.int .i64 ((dTypeDefs 40 68 ts).length : Int))), (20, .d (.int .i64 (i : Int)))], [.row 9 .deep 0 (dStr (sLines (ts.take i)))]⟩) (fun i => i ≤ ts.length) (fun i => ts.length - i) 0 rfl (by omega) ?_
  intro i I hi rec
  obtain ⟨x, hx⟩ : ∃ x, (ts[i]?).getD default = x := ⟨_, rfl⟩
  have hzx : i < ts.length → zTypeDef x ≤ zTypeDefs ts := fun h => z_type (i := i) (by rw [← hx]; simp [h])
  have hsl := sLines_take ts i
  have hsz : (ts.map zTypeDef).sum ≤ 1048576 := by simp only [zTypeDefs] at hz; omega
  (conv => whnf); repeat' (first | ((first | refine bdec ?_ ?_ | refine bnot ?_ ?_ | refine bsel_intro ?_ ?_ | skip) <;> intro hc <;> (try simp (disch := omega) only [nm, dArgDefs_len, dFieldDefs_len, dTypeDefs_len, dSchemas_len, dArgDefs_0, dArgDefs_1, dFieldDefs_0, dFieldDefs_1, dFieldDefs_2, dFieldDefs_3, dFieldDefs_4, dTypeDefs_0, dTypeDefs_1, dSchemas_0, Nat.reduceAdd, hx, wrapI] at hc) <;> conv => whnf) | (refine .head _ rfl (by kernel_rfl) ?_; conv => whnf) | (refine And.intro ?_ ?_; (focus ((first | omega | decide | exact Nat.le_of_ble_eq_true rfl | (simp (disch := omega) only [nm, dArgDefs_len, dFieldDefs_len, dTypeDefs_len, dSchemas_len, dArgDefs_0, dArgDefs_1, dFieldDefs_0, dFieldDefs_1, dFieldDefs_2, dFieldDefs_3, dFieldDefs_4, dTypeDefs_0, dTypeDefs_1, dSchemas_0, Nat.reduceAdd, hx, wrapI] <;> omega) | (simp [strOf, nm, dArgDefs_len, dFieldDefs_len, dTypeDefs_len, dSchemas_len, dArgDefs_0, dArgDefs_1, dFieldDefs_0, dFieldDefs_1, dFieldDefs_2, dFieldDefs_3, dFieldDefs_4, dTypeDefs_0, dTypeDefs_1, dSchemas_0, Nat.reduceAdd, hx] <;> omega) | rfl); done)); conv => whnf) | (rw [vv]; conv => whnf))
  · refine loopOf (fun k : Nat => ⟨[(4, .row 0), (6, .ref 1 0), (18, .d (.list 37 (dTypeDefs 40 68 ts))), (19, .d (.int .i64 ((dTypeDefs 40 68 ts).length : Int))), (20, .d (.int .i64 (i : Int))), (25, .d (.list 40 (dFieldDefs 68 x.2))), (26, .d (.int .i64 ((dFieldDefs 68 x.2).length : Int))), (27, .d (.int .i64 (k : Int)))], [.row 9 .deep 0 (dStr (sLines (ts.take i) ++ (x.2.take k).map (fLine x.1))), .box [.d (.str x.1), .d (.list 40 (dFieldDefs 68 x.2))]]⟩) (fun k => k ≤ x.2.length) (fun k => x.2.length - k) 0 (by simp only [nm, dArgDefs_len, dFieldDefs_len, dTypeDefs_len, dSchemas_len, dArgDefs_0, dArgDefs_1, dFieldDefs_0, dFieldDefs_1, dFieldDefs_2, dFieldDefs_3, dFieldDefs_4, dTypeDefs_0, dTypeDefs_1, dSchemas_0, Nat.reduceAdd, hx]; simp) (by omega) ?_
    intro k J hk rec2
    obtain ⟨f, hf⟩ : ∃ f, (x.2[k]?).getD default = f := ⟨_, rfl⟩
    have hzf : k < x.2.length → zFieldDef f + x.1.length + x.2.length ≤ zTypeDef x := fun h => z_field (k := k) (by rw [← hf]; simp [h])
    simp only [zFieldDef] at hzf
    (conv => whnf); repeat' (first | ((first | refine bdec ?_ ?_ | refine bnot ?_ ?_ | refine bsel_intro ?_ ?_ | skip) <;> intro hc <;> (try simp (disch := omega) only [nm, dArgDefs_len, dFieldDefs_len, dTypeDefs_len, dSchemas_len, dArgDefs_0, dArgDefs_1, dFieldDefs_0, dFieldDefs_1, dFieldDefs_2, dFieldDefs_3, dFieldDefs_4, dTypeDefs_0, dTypeDefs_1, dSchemas_0, Nat.reduceAdd, hx, hf, wrapI] at hc) <;> conv => whnf) | (refine .head _ rfl (by kernel_rfl) ?_; conv => whnf) | (refine And.intro ?_ ?_; (focus ((first | omega | decide | exact Nat.le_of_ble_eq_true rfl | (simp (disch := omega) only [nm, dArgDefs_len, dFieldDefs_len, dTypeDefs_len, dSchemas_len, dArgDefs_0, dArgDefs_1, dFieldDefs_0, dFieldDefs_1, dFieldDefs_2, dFieldDefs_3, dFieldDefs_4, dTypeDefs_0, dTypeDefs_1, dSchemas_0, Nat.reduceAdd, hx, hf, wrapI] <;> omega) | (simp [strOf, nm, dArgDefs_len, dFieldDefs_len, dTypeDefs_len, dSchemas_len, dArgDefs_0, dArgDefs_1, dFieldDefs_0, dFieldDefs_1, dFieldDefs_2, dFieldDefs_3, dFieldDefs_4, dTypeDefs_0, dTypeDefs_1, dSchemas_0, Nat.reduceAdd, hx, hf] <;> omega) | rfl); done)); conv => whnf) | (rw [vv]; conv => whnf))
    · refine loopOf (fun n : Nat => ⟨[(4, .row 0), (6, .ref 1 0), (8, .ref 2 0), (9, .row 3), (18, .d (.list 37 (dTypeDefs 40 68 ts))), (19, .d (.int .i64 ((dTypeDefs 40 68 ts).length : Int))), (20, .d (.int .i64 (i : Int))), (25, .d (.list 40 (dFieldDefs 68 x.2))), (26, .d (.int .i64 ((dFieldDefs 68 x.2).length : Int))), (27, .d (.int .i64 (k : Int))), (39, .d (.list 68 (dArgDefs f.2.1))), (40, .d (.int .i64 ((dArgDefs f.2.1).length : Int))), (41, .d (.int .i64 (n : Int)))], [.row 9 .deep 0 (dStr (sLines (ts.take i) ++ (x.2.take k).map (fLine x.1))), .box [.d (.str x.1), .d (.list 40 (dFieldDefs 68 x.2))], .box [.d (.str f.1), .d (.list 68 (dArgDefs f.2.1)), .d (.str f.2.2.1), .d (.bool f.2.2.2.1), .d (.bool f.2.2.2.2)], .row 9 .deep 0 (dStr ((x.1 ++ [46] ++ f.1) :: (f.2.1.take n).map wordA))]⟩) (fun n => n ≤ f.2.1.length) (fun n => f.2.1.length - n) 0 (by simp only [nm, dArgDefs_len, dFieldDefs_len, dTypeDefs_len, dSchemas_len, dArgDefs_0, dArgDefs_1, dFieldDefs_0, dFieldDefs_1, dFieldDefs_2, dFieldDefs_3, dFieldDefs_4, dTypeDefs_0, dTypeDefs_1, dSchemas_0, Nat.reduceAdd, hx, hf]; simp [dStr]) (by omega) ?_
      intro n L hn rec3
      obtain ⟨⟨a1, a2⟩, ha⟩ : ∃ a, (f.2.1[n]?).getD default = a := ⟨_, rfl⟩
      have htn : ¬ n < f.2.1.length → f.2.1.take n = f.2.1 := fun h => List.take_of_length_le (by omega)
      have hza : n < f.2.1.length → a1.length ≤ zArgDefs f.2.1 := fun h => z_arg (a := (a1, a2)) (n := n) (of_getD ha h)
      have hla : f.2.1.length ≤ zArgDefs f.2.1 := by simp only [zArgDefs]; omega
      have hat := argsT_take f.2.1 n
      have htl := tyT_len f.2.2.1 f.2.2.2.1 f.2.2.2.2
      (conv => whnf); repeat' (first | ((first | refine bdec ?_ ?_ | refine bnot ?_ ?_ | refine bsel_intro ?_ ?_ | skip) <;> intro hc <;> (try simp (disch := omega) only [nm, dArgDefs_len, dFieldDefs_len, dTypeDefs_len, dSchemas_len, dArgDefs_0, dArgDefs_1, dFieldDefs_0, dFieldDefs_1, dFieldDefs_2, dFieldDefs_3, dFieldDefs_4, dTypeDefs_0, dTypeDefs_1, dSchemas_0, Nat.reduceAdd, hx, hf, ha, getS_str, wrapI] at hc) <;> conv => whnf) | (refine .head _ rfl (by kernel_rfl) ?_; conv => whnf) | (refine w49 fun ver => ?_ <;> conv => whnf) | (refine x40 ?_ ?_ <;> conv => whnf) | (apply pcall; (focus (intro _ _ hk; first | exact w49 fun ver => ?_ hk | exact x40 ?_ ?_ hk)); conv => whnf) | (refine And.intro ?_ ?_; (focus ((first | omega | decide | exact Nat.le_of_ble_eq_true rfl | (simp (disch := omega) only [nm, dArgDefs_len, dFieldDefs_len, dTypeDefs_len, dSchemas_len, dArgDefs_0, dArgDefs_1, dFieldDefs_0, dFieldDefs_1, dFieldDefs_2, dFieldDefs_3, dFieldDefs_4, dTypeDefs_0, dTypeDefs_1, dSchemas_0, Nat.reduceAdd, hx, hf, ha, getS_str, wrapI] <;> omega) | (simp [strOf, nm, dArgDefs_len, dFieldDefs_len, dTypeDefs_len, dSchemas_len, dArgDefs_0, dArgDefs_1, dFieldDefs_0, dFieldDefs_1, dFieldDefs_2, dFieldDefs_3, dFieldDefs_4, dTypeDefs_0, dTypeDefs_1, dSchemas_0, Nat.reduceAdd, hx, hf, ha, getS_str] <;> omega) | rfl); done)); conv => whnf) | (rw [vv]; conv => whnf))
      · have hc : a2 = true := hc
        subst hc
        refine eqI (rec3 (n + 1) (by omega) (by omega)) ?_
        rw [List.take_add_one (l := f.2.1), of_getD ha (by omega), wrapS (by omega)]
        simp only [nm, dArgDefs_len, dFieldDefs_len, dTypeDefs_len, dSchemas_len, dArgDefs_0, dArgDefs_1, dFieldDefs_0, dFieldDefs_1, dFieldDefs_2, dFieldDefs_3, dFieldDefs_4, dTypeDefs_0, dTypeDefs_1, dSchemas_0, Nat.reduceAdd, ha]
        simp [dStr, wordA]
      · have hc : a2 = false := hc
        subst hc
        refine eqI (rec3 (n + 1) (by omega) (by omega)) ?_
        rw [List.take_add_one (l := f.2.1), of_getD ha (by omega), wrapS (by omega)]
        simp only [nm, dArgDefs_len, dFieldDefs_len, dTypeDefs_len, dSchemas_len, dArgDefs_0, dArgDefs_1, dFieldDefs_0, dFieldDefs_1, dFieldDefs_2, dFieldDefs_3, dFieldDefs_4, dTypeDefs_0, dTypeDefs_1, dSchemas_0, Nat.reduceAdd, ha]
        simp [dStr, wordA]
      · show f.2.2.1.length ≤ 1048576
        omega
      · have hat := argsT_len f.2.1
        refine wpArgs (xs' := [.d (.list 9 (dStr (((x.1 ++ [46] ++ f.1) :: f.2.1.map wordA) ++ [[58], tyT f.2.2.1 f.2.2.2.1 f.2.2.2.2]))), .d (.str [32])]) (by rw [htn (by omega)]; simp [dStr]) (w48 (by rw [join_line]; simp; omega) ?_)
        rw [join_line]
        (conv => whnf); repeat' (first | ((first | refine bdec ?_ ?_ | refine bnot ?_ ?_ | refine bsel_intro ?_ ?_ | skip) <;> intro hc <;> (try simp (disch := omega) only [nm, dArgDefs_len, dFieldDefs_len, dTypeDefs_len, dSchemas_len, dArgDefs_0, dArgDefs_1, dFieldDefs_0, dFieldDefs_1, dFieldDefs_2, dFieldDefs_3, dFieldDefs_4, dTypeDefs_0, dTypeDefs_1, dSchemas_0, Nat.reduceAdd, hx, hf, wrapI] at hc) <;> conv => whnf) | (refine .head _ rfl (by kernel_rfl) ?_; conv => whnf) | (refine And.intro ?_ ?_; (focus ((first | omega | decide | exact Nat.le_of_ble_eq_true rfl | (simp (disch := omega) only [nm, dArgDefs_len, dFieldDefs_len, dTypeDefs_len, dSchemas_len, dArgDefs_0, dArgDefs_1, dFieldDefs_0, dFieldDefs_1, dFieldDefs_2, dFieldDefs_3, dFieldDefs_4, dTypeDefs_0, dTypeDefs_1, dSchemas_0, Nat.reduceAdd, hx, hf, wrapI] <;> omega) | (simp [strOf, nm, dArgDefs_len, dFieldDefs_len, dTypeDefs_len, dSchemas_len, dArgDefs_0, dArgDefs_1, dFieldDefs_0, dFieldDefs_1, dFieldDefs_2, dFieldDefs_3, dFieldDefs_4, dTypeDefs_0, dTypeDefs_1, dSchemas_0, Nat.reduceAdd, hx, hf] <;> omega) | rfl); done)); conv => whnf) | (rw [vv]; conv => whnf))
        refine eqI (rec2 (k + 1) (by omega) (by omega)) ?_
        rw [List.take_add_one (l := x.2), of_getD hf (by omega), wrapS (by omega)]
        simp [dStr, fLine]
    · refine eqI (rec (i + 1) (by omega) (by omega)) ?_
      rw [sLines_succ (of_getD hx (by omega)), wrapS (by omega), List.take_of_length_le (l := x.2) (by omega)]
      rfl
  · rw [List.take_of_length_le (by omega)]
    exact h _
end Go.Proofs.SL
