/- Contracts of functions of this program, by the evaluator EN; part KG. No conditions but those that each theorem states. -/
import Derived.Test.YtekcghhacpllaaaGreatDoorKF
set_option linter.unusedVariables false
set_option linter.unusedSimpArgs false
set_option maxRecDepth 100000
set_option maxHeartbeats 8000000
namespace Go.Proofs.SL
open Go Go.Proofs Go.Proofs.EN Go.Proofs.VT
variable {T : Tabs}
/-! ### The lines -/
def wordA (a : ArgDef) : Str := a.1 ++ (if a.2 then [33] else [])
def argsT (xs : List ArgDef) : Str := (xs.map fun a => [32] ++ wordA a).flatten
def fLine (tn : Str) (f : FieldDef) : Str := tn ++ [46] ++ f.1 ++ argsT f.2.1 ++ [32, 58, 32] ++ tyT f.2.2.1 f.2.2.2.1 f.2.2.2.2
def tLines (x : TypeDef) : List Str := x.2.map (fLine x.1)
def sLines (ts : List TypeDef) : List Str := (ts.map tLines).flatten
theorem argsT_len (xs : List ArgDef) : (argsT xs).length ≤ 2 * zArgDefs xs := by
  induction xs with
  | nil => simp [argsT]
  | cons a xs ih =>
    have : (wordA a).length ≤ a.1.length + 1 := by unfold wordA; split <;> simp
    simp only [argsT, zArgDefs, zArgDef, List.map_cons, List.flatten_cons, List.length_append, List.sum_cons, List.length_cons] at *
    simp only [List.length_nil] at *
    omega
theorem tyT_len (t : Str) (l b : Bool) : (tyT t l b).length ≤ t.length + 6 := by
  unfold tyT; split <;> split <;> simp
theorem z_field {x : TypeDef} {k : Nat} {f : FieldDef} (h : x.2[k]? = some f) : zFieldDef f + x.1.length + x.2.length ≤ zTypeDef x := by
  have := sum_take zFieldDef h
  have := sum_take_le zFieldDef (xs := x.2) (i := k + 1)
  simp only [zTypeDef, zFieldDefs]; omega
theorem z_type {ts : List TypeDef} {i : Nat} {x : TypeDef} (h : ts[i]? = some x) : zTypeDef x ≤ zTypeDefs ts := by
  have := sum_take zTypeDef h
  have := sum_take_le zTypeDef (xs := ts) (i := i + 1)
  simp only [zTypeDefs]; omega
theorem tLines_len (x : TypeDef) : (tLines x).length ≤ zTypeDef x := by
  simp only [tLines, List.length_map, zTypeDef, zFieldDefs]; omega
theorem sLines_len (ts : List TypeDef) : (sLines ts).length ≤ (ts.map zTypeDef).sum := by
  induction ts with
  | nil => simp [sLines]
  | cons x ts ih =>
    have := tLines_len x
    simp only [sLines, List.map_cons, List.flatten_cons, List.length_append, List.sum_cons] at *
    omega
theorem sLines_take (ts : List TypeDef) (i : Nat) : (sLines (ts.take i)).length ≤ (ts.map zTypeDef).sum :=
  Nat.le_trans (sLines_len _) (sum_take_le zTypeDef)
theorem argsT_take (xs : List ArgDef) (n : Nat) : (argsT (xs.take n)).length ≤ 2 * zArgDefs xs := by
  have := argsT_len (xs.take n)
  have := sum_take_le zArgDef (xs := xs) (i := n)
  have : (xs.take n).length ≤ xs.length := by simp; omega
  simp only [zArgDefs] at *; omega
theorem z_arg {xs : List ArgDef} {n : Nat} {a : ArgDef} (h : xs[n]? = some a) : a.1.length ≤ zArgDefs xs := by
  have := sum_take zArgDef h
  have := sum_take_le zArgDef (xs := xs) (i := n + 1)
  simp only [zArgDefs, zArgDef] at *; omega
theorem sLines_succ {ts : List TypeDef} {i : Nat} {x : TypeDef} (h : ts[i]? = some x) : sLines (ts.take (i + 1)) = sLines (ts.take i) ++ tLines x := by
  rw [List.take_add_one, h]; simp [sLines]
theorem argsT_succ {xs : List ArgDef} {n : Nat} {a : ArgDef} (h : xs[n]? = some a) : argsT (xs.take (n + 1)) = argsT (xs.take n) ++ ([32] ++ wordA a) := by
  rw [List.take_add_one, h]; simp [argsT]
theorem of_getD {α : Type} [Inhabited α] {xs : List α} {i : Nat} {x : α} (h : (xs[i]?).getD default = x) (hi : i < xs.length) : xs[i]? = some x := by rw [← h]; simp [hi]
theorem getS_str (s : Str) : getS (.str s) = s := rfl
/-- What FieldLines comes to. -/
def flR (ts : List TypeDef) : List Str × Int := if schB ts then (sLines ts, 0) else ([], 1)
theorem w15 {ts : List TypeDef} {Kr Kp : C → List Ob → R} (hz : zTypeDefs ts ≤ 1048576) (h : ∀ ver, Kr (.tuple [.row 0, .d (.int .i64 (flR ts).2)]) [.row 9 .deep ver (dStr (flR ts).1)]) : Wp T Tryz.prog tt 15 [.agg [.d (.list 37 (dTypeDefs 40 68 ts))]] [] Kr Kp := by
  refine go (k := 15) (own := true) (cap := .deep) Tryz.func15 (by kernel_rfl) ?_
  (conv => whnf); repeat' (first | ((first | refine bdec ?_ ?_ | refine bnot ?_ ?_ | refine bsel_intro ?_ ?_ | skip) <;> intro hc <;> (try simp (disch := omega) only [nm, dArgDefs_len, dFieldDefs_len, dTypeDefs_len, dSchemas_len, dArgDefs_0, dArgDefs_1, dFieldDefs_0, dFieldDefs_1, dFieldDefs_2, dFieldDefs_3, dFieldDefs_4, dTypeDefs_0, dTypeDefs_1, dSchemas_0, Nat.reduceAdd, wrapI] at hc) <;> conv => whnf) | (refine .head _ rfl (by kernel_rfl) ?_; conv => whnf) | (refine w6 ?_; conv => whnf) | (apply pcall; (focus (intro _ _ hk; first | exact w6 hk)); conv => whnf) | (refine And.intro ?_ ?_; (focus ((first | omega | decide | exact Nat.le_of_ble_eq_true rfl | (simp (disch := omega) only [nm, dArgDefs_len, dFieldDefs_len, dTypeDefs_len, dSchemas_len, dArgDefs_0, dArgDefs_1, dFieldDefs_0, dFieldDefs_1, dFieldDefs_2, dFieldDefs_3, dFieldDefs_4, dTypeDefs_0, dTypeDefs_1, dSchemas_0, Nat.reduceAdd, wrapI] <;> omega) | (simp [strOf, nm, dArgDefs_len, dFieldDefs_len, dTypeDefs_len, dSchemas_len, dArgDefs_0, dArgDefs_1, dFieldDefs_0, dFieldDefs_1, dFieldDefs_2, dFieldDefs_3, dFieldDefs_4, dTypeDefs_0, dTypeDefs_1, dSchemas_0, Nat.reduceAdd] <;> omega) | rfl); done)); conv => whnf) | (rw [vv]; conv => whnf))
  · have hc : schB ts = false := by simpa using hc
    simpa [flR, hc, dStr] using h 0
  have hc : schB ts = true := by simpa using hc
  simp only [flR, hc, if_true] at h
  refine loopOf (fun i : Nat => ⟨[(1, .ref 0 0), (4, .row 1), (5, .d (.int .i64 (i : Int)))], [.box [.d (.list 37 (dTypeDefs 40 68 ts))], .row 9 .deep 0 (dStr (sLines (ts.take i)))]⟩) (fun i => i ≤ ts.length) (fun i => ts.length - i) 0 rfl (by omega) ?_
  intro i I hi rec
  obtain ⟨x, hx⟩ : ∃ x, (ts[i]?).getD default = x := ⟨_, rfl⟩
  have hzx : i < ts.length → zTypeDef x ≤ zTypeDefs ts := fun h => z_type (i := i) (by rw [← hx]; simp [h])
  have hsl := sLines_take ts i
  have hsz : (ts.map zTypeDef).sum ≤ 1048576 := by simp only [zTypeDefs] at hz; omega
  (conv => whnf); repeat' (first | ((first | refine bdec ?_ ?_ | refine bnot ?_ ?_ | refine bsel_intro ?_ ?_ | skip) <;> intro hc <;> (try simp (disch := omega) only [nm, dArgDefs_len, dFieldDefs_len, dTypeDefs_len, dSchemas_len, dArgDefs_0, dArgDefs_1, dFieldDefs_0, dFieldDefs_1, dFieldDefs_2, dFieldDefs_3, dFieldDefs_4, dTypeDefs_0, dTypeDefs_1, dSchemas_0, Nat.reduceAdd, hx, wrapI] at hc) <;> conv => whnf) | (refine .head _ rfl (by kernel_rfl) ?_; conv => whnf) | (refine And.intro ?_ ?_; (focus ((first | omega | decide | exact Nat.le_of_ble_eq_true rfl | (simp (disch := omega) only [nm, dArgDefs_len, dFieldDefs_len, dTypeDefs_len, dSchemas_len, dArgDefs_0, dArgDefs_1, dFieldDefs_0, dFieldDefs_1, dFieldDefs_2, dFieldDefs_3, dFieldDefs_4, dTypeDefs_0, dTypeDefs_1, dSchemas_0, Nat.reduceAdd, hx, wrapI] <;> omega) | (simp [strOf, nm, dArgDefs_len, dFieldDefs_len, dTypeDefs_len, dSchemas_len, dArgDefs_0, dArgDefs_1, dFieldDefs_0, dFieldDefs_1, dFieldDefs_2, dFieldDefs_3, dFieldDefs_4, dTypeDefs_0, dTypeDefs_1, dSchemas_0, Nat.reduceAdd, hx] <;> omega) | rfl); done)); conv => whnf) | (rw [vv]; conv => whnf))
  · refine loopOf (fun k : Nat => ⟨[(1, .ref 0 0), (4, .row 1), (5, .d (.int .i64 (i : Int))), (6, .d (.int .i64 (k : Int)))], [.box [.d (.list 37 (dTypeDefs 40 68 ts))], .row 9 .deep 0 (dStr (sLines (ts.take i) ++ (x.2.take k).map (fLine x.1)))]⟩) (fun k => k ≤ x.2.length) (fun k => x.2.length - k) 0 (by simp) (by omega) ?_
    intro k J hk rec2
    obtain ⟨f, hf⟩ : ∃ f, (x.2[k]?).getD default = f := ⟨_, rfl⟩
    have hzf : k < x.2.length → zFieldDef f + x.1.length + x.2.length ≤ zTypeDef x := fun h => z_field (k := k) (by rw [← hf]; simp [h])
    simp only [zFieldDef] at hzf
    (conv => whnf); repeat' (first | ((first | refine bdec ?_ ?_ | refine bnot ?_ ?_ | refine bsel_intro ?_ ?_ | skip) <;> intro hc <;> (try simp (disch := omega) only [nm, dArgDefs_len, dFieldDefs_len, dTypeDefs_len, dSchemas_len, dArgDefs_0, dArgDefs_1, dFieldDefs_0, dFieldDefs_1, dFieldDefs_2, dFieldDefs_3, dFieldDefs_4, dTypeDefs_0, dTypeDefs_1, dSchemas_0, Nat.reduceAdd, hx, hf, wrapI] at hc) <;> conv => whnf) | (refine .head _ rfl (by kernel_rfl) ?_; conv => whnf) | (refine And.intro ?_ ?_; (focus ((first | omega | decide | exact Nat.le_of_ble_eq_true rfl | (simp (disch := omega) only [nm, dArgDefs_len, dFieldDefs_len, dTypeDefs_len, dSchemas_len, dArgDefs_0, dArgDefs_1, dFieldDefs_0, dFieldDefs_1, dFieldDefs_2, dFieldDefs_3, dFieldDefs_4, dTypeDefs_0, dTypeDefs_1, dSchemas_0, Nat.reduceAdd, hx, hf, wrapI] <;> omega) | (simp [strOf, nm, dArgDefs_len, dFieldDefs_len, dTypeDefs_len, dSchemas_len, dArgDefs_0, dArgDefs_1, dFieldDefs_0, dFieldDefs_1, dFieldDefs_2, dFieldDefs_3, dFieldDefs_4, dTypeDefs_0, dTypeDefs_1, dSchemas_0, Nat.reduceAdd, hx, hf] <;> omega) | rfl); done)); conv => whnf) | (rw [vv]; conv => whnf))
    · refine loopOf (fun n : Nat => ⟨[(1, .ref 0 0), (4, .row 1), (5, .d (.int .i64 (i : Int))), (6, .d (.int .i64 (k : Int))), (7, .ref 2 0), (8, .d (.str (x.1 ++ [46] ++ f.1 ++ argsT (f.2.1.take n)))), (9, .d (.int .i64 (n : Int)))], [.box [.d (.list 37 (dTypeDefs 40 68 ts))], .row 9 .deep 0 (dStr (sLines (ts.take i) ++ (x.2.take k).map (fLine x.1))), .box [.d (.str f.1), .d (.list 68 (dArgDefs f.2.1)), .d (.str f.2.2.1), .d (.bool f.2.2.2.1), .d (.bool f.2.2.2.2)]]⟩) (fun n => n ≤ f.2.1.length) (fun n => f.2.1.length - n) 0 (by simp only [nm, dArgDefs_len, dFieldDefs_len, dTypeDefs_len, dSchemas_len, dArgDefs_0, dArgDefs_1, dFieldDefs_0, dFieldDefs_1, dFieldDefs_2, dFieldDefs_3, dFieldDefs_4, dTypeDefs_0, dTypeDefs_1, dSchemas_0, Nat.reduceAdd, hx, hf]; simp [argsT]) (by omega) ?_
      intro n L hn rec3
      obtain ⟨⟨a1, a2⟩, ha⟩ : ∃ a, (f.2.1[n]?).getD default = a := ⟨_, rfl⟩
      have htn : ¬ n < f.2.1.length → f.2.1.take n = f.2.1 := fun h => List.take_of_length_le (by omega)
      have hza : n < f.2.1.length → a1.length ≤ zArgDefs f.2.1 := fun h => z_arg (a := (a1, a2)) (n := n) (of_getD ha h)
      have hat := argsT_take f.2.1 n
      have htl := tyT_len f.2.2.1 f.2.2.2.1 f.2.2.2.2
      cases a2 <;> (conv => whnf); repeat' (first | ((first | refine bdec ?_ ?_ | refine bnot ?_ ?_ | refine bsel_intro ?_ ?_ | skip) <;> intro hc <;> (try simp (disch := omega) only [nm, dArgDefs_len, dFieldDefs_len, dTypeDefs_len, dSchemas_len, dArgDefs_0, dArgDefs_1, dFieldDefs_0, dFieldDefs_1, dFieldDefs_2, dFieldDefs_3, dFieldDefs_4, dTypeDefs_0, dTypeDefs_1, dSchemas_0, Nat.reduceAdd, hx, hf, ha, getS_str, wrapI] at hc) <;> conv => whnf) | (refine .head _ rfl (by kernel_rfl) ?_; conv => whnf) | (refine w50 ?_; conv => whnf) | (refine w51 ?_ ?_ <;> conv => whnf) | (apply pcall; (focus (intro _ _ hk; first | exact w50 hk | exact w51 ?_ ?_ hk)); conv => whnf) | (refine And.intro ?_ ?_; (focus ((first | omega | decide | exact Nat.le_of_ble_eq_true rfl | (simp (disch := omega) only [nm, dArgDefs_len, dFieldDefs_len, dTypeDefs_len, dSchemas_len, dArgDefs_0, dArgDefs_1, dFieldDefs_0, dFieldDefs_1, dFieldDefs_2, dFieldDefs_3, dFieldDefs_4, dTypeDefs_0, dTypeDefs_1, dSchemas_0, Nat.reduceAdd, hx, hf, ha, getS_str, wrapI] <;> omega) | (simp [strOf, nm, dArgDefs_len, dFieldDefs_len, dTypeDefs_len, dSchemas_len, dArgDefs_0, dArgDefs_1, dFieldDefs_0, dFieldDefs_1, dFieldDefs_2, dFieldDefs_3, dFieldDefs_4, dTypeDefs_0, dTypeDefs_1, dSchemas_0, Nat.reduceAdd, hx, hf, ha, getS_str] <;> omega) | rfl); done)); conv => whnf) | (rw [vv]; conv => whnf))
      all_goals first
        | (show f.2.2.1.length ≤ 1048576; omega)
        | (refine eqI (rec2 (k + 1) ?_ ?_) ?_ <;> first | omega | (rw [htn (by omega), List.take_add_one (l := x.2), of_getD hf (by omega), wrapS (by omega)]; simp [dStr, fLine]; done))
        | (refine eqI (rec3 (n + 1) ?_ ?_) ?_ <;> first | omega | (rw [argsT_succ (of_getD ha (by omega)), wrapS (by omega)]; simp only [nm, dArgDefs_len, dFieldDefs_len, dTypeDefs_len, dSchemas_len, dArgDefs_0, dArgDefs_1, dFieldDefs_0, dFieldDefs_1, dFieldDefs_2, dFieldDefs_3, dFieldDefs_4, dTypeDefs_0, dTypeDefs_1, dSchemas_0, Nat.reduceAdd, hx, hf, ha]; simp [wordA, getS]; done))
    · refine eqI (rec (i + 1) (by omega) (by omega)) ?_
      rw [sLines_succ (of_getD hx (by omega)), wrapS (by omega), List.take_of_length_le (l := x.2) (by omega)]
      rfl
  · rw [List.take_of_length_le (by omega)]
    exact h _
end Go.Proofs.SL
