/- Contracts of functions of this program, by the evaluator EN; part KR. No conditions but those that each theorem states. -/
import Derived.Test.YtekcghhacpllaaaGreatDoorKQ
set_option linter.unusedVariables false
set_option linter.unusedSimpArgs false
set_option maxRecDepth 100000
set_option maxHeartbeats 8000000
namespace Go.Proofs.SL
open Go Go.Proofs Go.Proofs.EN Go.Proofs.VT
variable {T : Tabs}
/-! ### A schema's text -/
def argP (n : Nat) (a : ArgDef) : Str := (if 0 < n then [32] else [32, 40, 32]) ++ a.1 ++ [32, 58, 32, 73, 110, 116] ++ (if a.2 then [32, 33] else [])
def argsP : Nat → List ArgDef → Str
  | _, [] => []
  | n, a :: r => argP n a ++ argsP (n + 1) r
def fldP (f : FieldDef) : Str := [32] ++ f.1 ++ argsP 0 f.2.1 ++ (if 0 < f.2.1.length then [32, 41] else []) ++ [32, 58, 32] ++ tyT f.2.2.1 f.2.2.2.1 f.2.2.2.2
def typP (t : TypeDef) : Str := [116, 121, 112, 101, 32] ++ t.1 ++ [32, 123] ++ (t.2.map fldP).flatten ++ [32, 125]
def prT (ts : List TypeDef) : Str := Lib.join (ts.map typP) [32]
theorem argsP_take : ∀ (xs : List ArgDef) (k n : Nat) (a : ArgDef), xs[n]? = some a → argsP k (xs.take (n + 1)) = argsP k (xs.take n) ++ argP (k + n) a
  | [], k, n, a, h => by simp at h
  | x :: xs, k, 0, a, h => by simp at h; subst h; simp [argsP]
  | x :: xs, k, n + 1, a, h => by
    have := argsP_take xs (k + 1) n a (by simpa using h)
    rw [List.take_succ_cons, List.take_succ_cons, argsP, argsP, this, show k + 1 + n = k + (n + 1) by omega, List.append_assoc]
theorem argsP_le : ∀ (xs : List ArgDef) (k n : Nat), (argsP k (xs.take n)).length ≤ (argsP k xs).length
  | [], k, n => by simp
  | x :: xs, k, 0 => by simp [argsP]
  | x :: xs, k, n + 1 => by
    have := argsP_le xs (k + 1) n
    rw [List.take_succ_cons, argsP, argsP, List.length_append, List.length_append]; omega
theorem flatS_take_le {α : Type} (f : α → Str) : ∀ (xs : List α) (i : Nat), ((xs.take i).map f).flatten.length ≤ (xs.map f).flatten.length
  | [], i => by simp
  | x :: xs, 0 => by simp
  | x :: xs, i + 1 => by
    have := flatS_take_le f xs i
    simp only [List.take_succ_cons, List.map_cons, List.flatten_cons, List.length_append]
    omega
theorem flatS_succ {α : Type} (f : α → Str) {xs : List α} {i : Nat} {x : α} (h : xs[i]? = some x) : ((xs.take (i + 1)).map f).flatten = ((xs.take i).map f).flatten ++ f x := by
  rw [List.take_add_one, h]; simp
theorem flatten_take (L : List Str) : ∀ i, (L.take i).flatten.length ≤ L.flatten.length := by
  induction L with
  | nil => intro i; simp
  | cons x L ih =>
    intro i
    cases i with
    | zero => simp
    | succ i => simp only [List.take_succ_cons, List.flatten_cons, List.length_append]; have := ih i; omega
theorem join_le (l : List Str) (s : Str) (i : Nat) : (Lib.join (l.take i) s).length ≤ (Lib.join l s).length := by
  cases l with
  | nil => simp
  | cons x r =>
    cases i with
    | zero => simp [Lib.join_nil]
    | succ i =>
      rw [List.take_succ_cons, Lib.join_cons, Lib.join_cons, List.length_append, List.length_append]
      have : (Lib.joinTail s (r.take i)).length ≤ (Lib.joinTail s r).length := by
        unfold Lib.joinTail
        rw [List.map_take]
        exact flatten_take _ i
      omega
theorem join_snoc (l : List Str) (s : Str) (i : Nat) (hi : i < l.length) :
    Lib.join (l.take (i + 1)) s = (if 0 < i then Lib.join (l.take i) s ++ s else Lib.join (l.take i) s) ++ l[i]?.getD [] := by
  rw [List.take_add_one, List.getElem?_eq_getElem hi]
  by_cases h0 : i = 0
  · subst h0
    simp [Lib.join_one, Lib.join_nil]
  · rw [if_pos (by omega)]
    have hne : l.take i ≠ [] := by
      intro h
      have := congrArg List.length h
      rw [List.length_take, List.length_nil] at this; omega
    generalize l.take i = xs at hne
    cases xs with
    | nil => exact absurd rfl hne
    | cons x r => simp [Lib.join_cons, Lib.joinTail]
theorem w80 {ws : List Str} {s : Str} {Kr Kp : C → List Ob → R} (hb : (Lib.join ws s).length ≤ 4294967296) (h : Kr (.d (.str (Lib.join ws s))) []) : Wp T Tryz.prog tt 80 [.d (.list 9 (dStr ws)), .d (.str s)] [] Kr Kp := by
  refine go (k := 80) (own := true) (cap := .deep) Tryz.func80 (by kernel_rfl) ?_
  (conv => whnf); repeat' (first | ((first | refine bdec ?_ ?_ | refine bnot ?_ ?_ | refine bsel_intro ?_ ?_ | skip) <;> intro hc <;> (try simp (disch := omega) only [nm, dArgDefs_len, dFieldDefs_len, dTypeDefs_len, dSchemas_len, dArgDefs_0, dArgDefs_1, dFieldDefs_0, dFieldDefs_1, dFieldDefs_2, dFieldDefs_3, dFieldDefs_4, dTypeDefs_0, dTypeDefs_1, dSchemas_0, dToks_len, dToks_0, dToks_1, dToks_2, Nat.reduceAdd, wrapI] at hc) <;> conv => whnf) | (refine .head _ rfl (by kernel_rfl) ?_; conv => whnf) | (refine And.intro ?_ ?_; (focus ((first | omega | decide | (simp (disch := omega) only [nm, dArgDefs_len, dFieldDefs_len, dTypeDefs_len, dSchemas_len, dArgDefs_0, dArgDefs_1, dFieldDefs_0, dFieldDefs_1, dFieldDefs_2, dFieldDefs_3, dFieldDefs_4, dTypeDefs_0, dTypeDefs_1, dSchemas_0, dToks_len, dToks_0, dToks_1, dToks_2, Nat.reduceAdd, wrapI] <;> omega) | (simp [strOf, nm, dArgDefs_len, dFieldDefs_len, dTypeDefs_len, dSchemas_len, dArgDefs_0, dArgDefs_1, dFieldDefs_0, dFieldDefs_1, dFieldDefs_2, dFieldDefs_3, dFieldDefs_4, dTypeDefs_0, dTypeDefs_1, dSchemas_0, dToks_len, dToks_0, dToks_1, dToks_2, Nat.reduceAdd] <;> omega) | exact Nat.le_of_ble_eq_true rfl | rfl); done)); conv => whnf) | (rw [vv]; conv => whnf))
  refine loopOf (fun i : Nat => ⟨[(0, .d (.list 9 (dStr ws))), (1, .d (.str s)), (5, .d (.str (Lib.join (ws.take i) s))), (6, .d (.int .i64 (i : Int)))], []⟩) (fun i => i ≤ ws.length) (fun i => ws.length - i) 0 (by simp [Lib.join_nil]) (by omega) ?_
  intro i I hi rec
  have h1 := join_le ws s (i + 1)
  have h2 : i < ws.length → (0 < i → (Lib.join (ws.take i) s).length + s.length + (ws[i]?.getD []).length ≤ 4294967296) ∧ (¬ 0 < i → (Lib.join (ws.take i) s).length + (ws[i]?.getD []).length ≤ 4294967296) := fun hi => by
    rw [join_snoc ws s i hi, List.length_append] at h1
    constructor <;> intro h0
    · rw [if_pos h0, List.length_append] at h1; omega
    · rw [if_neg h0] at h1; omega
  (conv => whnf); repeat' (first | ((first | refine bdec ?_ ?_ | refine bnot ?_ ?_ | refine bsel_intro ?_ ?_ | skip) <;> intro hc <;> (try simp (disch := omega) only [nm, dArgDefs_len, dFieldDefs_len, dTypeDefs_len, dSchemas_len, dArgDefs_0, dArgDefs_1, dFieldDefs_0, dFieldDefs_1, dFieldDefs_2, dFieldDefs_3, dFieldDefs_4, dTypeDefs_0, dTypeDefs_1, dSchemas_0, dToks_len, dToks_0, dToks_1, dToks_2, Nat.reduceAdd, wrapI] at hc) <;> conv => whnf) | (refine .head _ rfl (by kernel_rfl) ?_; conv => whnf) | (refine And.intro ?_ ?_; (focus ((first | omega | decide | (simp (disch := omega) only [nm, dArgDefs_len, dFieldDefs_len, dTypeDefs_len, dSchemas_len, dArgDefs_0, dArgDefs_1, dFieldDefs_0, dFieldDefs_1, dFieldDefs_2, dFieldDefs_3, dFieldDefs_4, dTypeDefs_0, dTypeDefs_1, dSchemas_0, dToks_len, dToks_0, dToks_1, dToks_2, Nat.reduceAdd, wrapI] <;> omega) | (simp [strOf, nm, dArgDefs_len, dFieldDefs_len, dTypeDefs_len, dSchemas_len, dArgDefs_0, dArgDefs_1, dFieldDefs_0, dFieldDefs_1, dFieldDefs_2, dFieldDefs_3, dFieldDefs_4, dTypeDefs_0, dTypeDefs_1, dSchemas_0, dToks_len, dToks_0, dToks_1, dToks_2, Nat.reduceAdd] <;> omega) | exact Nat.le_of_ble_eq_true rfl | rfl); done)); conv => whnf) | (rw [vv]; conv => whnf))
  · refine eqI (rec (i + 1) (by omega) (by omega)) ?_
    rw [join_snoc ws s i (by omega), if_pos (by omega)]
    simp (disch := omega) only [nm, wrapS]
  · refine eqI (rec (i + 1) (by omega) (by omega)) ?_
    rw [join_snoc ws s i (by omega), if_neg (by omega)]
    simp (disch := omega) only [nm, wrapS]
  · rw [List.take_of_length_le (by omega)]; exact h
theorem w43 {ts : List TypeDef} {Kr Kp : C → List Ob → R} (hn : ts.length ≤ 8) (h10 : ∀ x ∈ ts, x.1.length ≤ 1000 ∧ (typP x).length ≤ 65536 ∧ x.2.length ≤ 100 ∧ ∀ f ∈ x.2, f.2.1.length ≤ 4 ∧ (fldP f).length ≤ 65536 ∧ f.2.2.1.length ≤ 65536) (hb : (prT ts).length ≤ 65536) (h : Kr (.d (.str (prT ts))) []) : Wp T Tryz.prog tt 43 [.agg [.d (.list 37 (dTypeDefs 40 68 ts))]] [] Kr Kp := by
  refine go (k := 43) (own := true) (cap := .deep) Tryz.func43 (by kernel_rfl) ?_
  (conv => whnf); repeat' (first | ((first | refine bdec ?_ ?_ | refine bnot ?_ ?_ | refine bsel_intro ?_ ?_ | skip) <;> intro hc <;> (try simp (disch := omega) only [nm, dArgDefs_len, dFieldDefs_len, dTypeDefs_len, dSchemas_len, dArgDefs_0, dArgDefs_1, dFieldDefs_0, dFieldDefs_1, dFieldDefs_2, dFieldDefs_3, dFieldDefs_4, dTypeDefs_0, dTypeDefs_1, dSchemas_0, dToks_len, dToks_0, dToks_1, dToks_2, Nat.reduceAdd, wrapI] at hc) <;> conv => whnf) | (refine .head _ rfl (by kernel_rfl) ?_; conv => whnf) | (refine And.intro ?_ ?_; (focus ((first | omega | decide | (simp (disch := omega) only [nm, dArgDefs_len, dFieldDefs_len, dTypeDefs_len, dSchemas_len, dArgDefs_0, dArgDefs_1, dFieldDefs_0, dFieldDefs_1, dFieldDefs_2, dFieldDefs_3, dFieldDefs_4, dTypeDefs_0, dTypeDefs_1, dSchemas_0, dToks_len, dToks_0, dToks_1, dToks_2, Nat.reduceAdd, wrapI] <;> omega) | (simp [strOf, nm, dArgDefs_len, dFieldDefs_len, dTypeDefs_len, dSchemas_len, dArgDefs_0, dArgDefs_1, dFieldDefs_0, dFieldDefs_1, dFieldDefs_2, dFieldDefs_3, dFieldDefs_4, dTypeDefs_0, dTypeDefs_1, dSchemas_0, dToks_len, dToks_0, dToks_1, dToks_2, Nat.reduceAdd] <;> omega) | exact Nat.le_of_ble_eq_true rfl | rfl); done)); conv => whnf) | (rw [vv]; conv => whnf))
  refine loopOf (fun i : Nat => ⟨[(1, .ref 0 0), (3, .row 1), (4, .d (.int .i64 (i : Int)))], [.box [.d (.list 37 (dTypeDefs 40 68 ts))], .row 9 .deep 0 (dStr ((ts.take i).map typP))]⟩) (fun i => i ≤ ts.length) (fun i => ts.length - i) 0 rfl (by omega) ?_
  intro i I hi rec
  obtain ⟨x, hx⟩ : ∃ x, (ts[i]?).getD default = x := ⟨_, rfl⟩
  have hx10 : i < ts.length → x.1.length ≤ 1000 ∧ (typP x).length ≤ 65536 ∧ x.2.length ≤ 100 ∧ ∀ f ∈ x.2, f.2.1.length ≤ 4 ∧ (fldP f).length ≤ 65536 ∧ f.2.2.1.length ≤ 65536 := fun hlt => h10 x (List.mem_of_getElem? (of_getD hx hlt))
  have hx1 : i < ts.length → x.1.length ≤ 1000 := fun h => (hx10 h).1
  (conv => whnf); repeat' (first | ((first | refine bdec ?_ ?_ | refine bnot ?_ ?_ | refine bsel_intro ?_ ?_ | skip) <;> intro hc <;> (try simp (disch := omega) only [nm, dArgDefs_len, dFieldDefs_len, dTypeDefs_len, dSchemas_len, dArgDefs_0, dArgDefs_1, dFieldDefs_0, dFieldDefs_1, dFieldDefs_2, dFieldDefs_3, dFieldDefs_4, dTypeDefs_0, dTypeDefs_1, dSchemas_0, dToks_len, dToks_0, dToks_1, dToks_2, Nat.reduceAdd, hx, wrapI] at hc) <;> conv => whnf) | (refine .head _ rfl (by kernel_rfl) ?_; conv => whnf) | (refine wpArgs (xs' := [.d (.list 9 (dStr (ts.map typP))), .d (.str [32])]) (by rw [List.take_of_length_le (by omega)]) (w80 ?_ ?_) <;> conv => whnf) | (apply pcall; (focus (intro _ _ hk; first | exact wpArgs (xs' := [.d (.list 9 (dStr (ts.map typP))), .d (.str [32])]) (by rw [List.take_of_length_le (by omega)]) (w80 ?_ ?_) hk)); conv => whnf) | (refine And.intro ?_ ?_; (focus ((first | omega | decide | (simp (disch := omega) only [nm, dArgDefs_len, dFieldDefs_len, dTypeDefs_len, dSchemas_len, dArgDefs_0, dArgDefs_1, dFieldDefs_0, dFieldDefs_1, dFieldDefs_2, dFieldDefs_3, dFieldDefs_4, dTypeDefs_0, dTypeDefs_1, dSchemas_0, dToks_len, dToks_0, dToks_1, dToks_2, Nat.reduceAdd, hx, wrapI] <;> omega) | (simp [strOf, nm, dArgDefs_len, dFieldDefs_len, dTypeDefs_len, dSchemas_len, dArgDefs_0, dArgDefs_1, dFieldDefs_0, dFieldDefs_1, dFieldDefs_2, dFieldDefs_3, dFieldDefs_4, dTypeDefs_0, dTypeDefs_1, dSchemas_0, dToks_len, dToks_0, dToks_1, dToks_2, Nat.reduceAdd, hx] <;> omega) | exact Nat.le_of_ble_eq_true rfl | rfl); done)); conv => whnf) | (rw [vv]; conv => whnf))
  · have hit : i < ts.length := by omega
    obtain ⟨g1, g2, g3, g4⟩ := hx10 hit
    refine loopOf (fun k : Nat => ⟨[(1, .ref 0 0), (3, .row 1), (4, .d (.int .i64 (i : Int))), (5, .d (.str ([116, 121, 112, 101, 32] ++ x.1 ++ [32, 123] ++ ((x.2.take k).map fldP).flatten))), (6, .d (.int .i64 (k : Int)))], [.box [.d (.list 37 (dTypeDefs 40 68 ts))], .row 9 .deep 0 (dStr ((ts.take i).map typP))]⟩) (fun k => k ≤ x.2.length) (fun k => x.2.length - k) 0 (by simp only [nm, dArgDefs_len, dFieldDefs_len, dTypeDefs_len, dSchemas_len, dArgDefs_0, dArgDefs_1, dFieldDefs_0, dFieldDefs_1, dFieldDefs_2, dFieldDefs_3, dFieldDefs_4, dTypeDefs_0, dTypeDefs_1, dSchemas_0, dToks_len, dToks_0, dToks_1, dToks_2, Nat.reduceAdd, hx]; simp) (by omega) ?_
    intro k J hk rec2
    obtain ⟨⟨f1, f2, f3, f4, f5⟩, hf⟩ : ∃ f, (x.2[k]?).getD default = f := ⟨_, rfl⟩
    have hlt : (typP x).length = 5 + x.1.length + 2 + ((x.2.map fldP).flatten).length + 2 := by simp [typP]; omega
    have hp2 := flatS_take_le fldP x.2 k
    have hpr : k < x.2.length → ((x.2.take k).map fldP).flatten.length + (fldP (f1, f2, f3, f4, f5)).length ≤ ((x.2.map fldP).flatten).length := fun hlt => by
      have h1 := flatS_take_le fldP x.2 (k + 1)
      rw [flatS_succ fldP (of_getD hf hlt), List.length_append] at h1
      exact h1
    have hfl : (fldP (f1, f2, f3, f4, f5)).length = 1 + f1.length + (argsP 0 f2).length + (if 0 < f2.length then [32, 41] else ([] : Str)).length + 3 + (tyT f3 f4 f5).length := by simp [fldP]; omega
    have hgf : k < x.2.length → f2.length ≤ 4 ∧ f3.length ≤ 65536 := fun hlt => by
      have := g4 (f1, f2, f3, f4, f5) (List.mem_of_getElem? (of_getD hf hlt))
      exact ⟨this.1, this.2.2⟩
    (conv => whnf); repeat' (first | ((first | refine bdec ?_ ?_ | refine bnot ?_ ?_ | refine bsel_intro ?_ ?_ | skip) <;> intro hc <;> (try simp (disch := omega) only [nm, dArgDefs_len, dFieldDefs_len, dTypeDefs_len, dSchemas_len, dArgDefs_0, dArgDefs_1, dFieldDefs_0, dFieldDefs_1, dFieldDefs_2, dFieldDefs_3, dFieldDefs_4, dTypeDefs_0, dTypeDefs_1, dSchemas_0, dToks_len, dToks_0, dToks_1, dToks_2, Nat.reduceAdd, hx, hf, wrapI] at hc) <;> conv => whnf) | (refine .head _ rfl (by kernel_rfl) ?_; conv => whnf) | (refine And.intro ?_ ?_; (focus ((first | omega | decide | (simp (disch := omega) only [nm, dArgDefs_len, dFieldDefs_len, dTypeDefs_len, dSchemas_len, dArgDefs_0, dArgDefs_1, dFieldDefs_0, dFieldDefs_1, dFieldDefs_2, dFieldDefs_3, dFieldDefs_4, dTypeDefs_0, dTypeDefs_1, dSchemas_0, dToks_len, dToks_0, dToks_1, dToks_2, Nat.reduceAdd, hx, hf, wrapI] <;> omega) | (simp [strOf, nm, dArgDefs_len, dFieldDefs_len, dTypeDefs_len, dSchemas_len, dArgDefs_0, dArgDefs_1, dFieldDefs_0, dFieldDefs_1, dFieldDefs_2, dFieldDefs_3, dFieldDefs_4, dTypeDefs_0, dTypeDefs_1, dSchemas_0, dToks_len, dToks_0, dToks_1, dToks_2, Nat.reduceAdd, hx, hf] <;> omega) | exact Nat.le_of_ble_eq_true rfl | rfl); done)); conv => whnf) | (rw [vv]; conv => whnf))
    · refine loopOf (fun n : Nat => ⟨[(1, .ref 0 0), (3, .row 1), (4, .d (.int .i64 (i : Int))), (5, .d (.str ([116, 121, 112, 101, 32] ++ x.1 ++ [32, 123] ++ ((x.2.take k).map fldP).flatten ++ ([32] ++ f1) ++ argsP 0 (f2.take n)))), (6, .d (.int .i64 (k : Int))), (7, .ref 2 0), (8, .d (.int .i64 (n : Int)))], [.box [.d (.list 37 (dTypeDefs 40 68 ts))], .row 9 .deep 0 (dStr ((ts.take i).map typP)), .box [.d (.str f1), .d (.list 68 (dArgDefs f2)), .d (.str f3), .d (.bool f4), .d (.bool f5)]]⟩) (fun n => n ≤ f2.length) (fun n => f2.length - n) 0 (by simp only [nm, dArgDefs_len, dFieldDefs_len, dTypeDefs_len, dSchemas_len, dArgDefs_0, dArgDefs_1, dFieldDefs_0, dFieldDefs_1, dFieldDefs_2, dFieldDefs_3, dFieldDefs_4, dTypeDefs_0, dTypeDefs_1, dSchemas_0, dToks_len, dToks_0, dToks_1, dToks_2, Nat.reduceAdd, hx, hf]; simp [argsP]) (by omega) ?_
      intro n L hnn rec3
      have hkk : k < x.2.length := by omega
      have hpk := hpr hkk
      obtain ⟨q1, q2⟩ := hgf hkk
      obtain ⟨⟨a1, a2⟩, ha⟩ : ∃ a, (f2[n]?).getD default = a := ⟨_, rfl⟩
      have htn : ¬ n < f2.length → f2.take n = f2 := fun h => List.take_of_length_le (by omega)
      have ha1 := argsP_le f2 0 n
      have ha2 : n < f2.length → (argsP 0 (f2.take n)).length + (argP n (a1, a2)).length ≤ (argsP 0 f2).length := fun hl => by
        have h1 := argsP_le f2 0 (n + 1)
        rw [argsP_take f2 0 n (a1, a2) (of_getD ha hl), List.length_append, Nat.zero_add] at h1
        exact h1
      have ha3 : (argP n (a1, a2)).length = (if 0 < n then [32] else ([32, 40, 32] : Str)).length + a1.length + 6 + (if a2 then [32, 33] else ([] : Str)).length := by simp [argP]; omega
      have hty := tyT_len f3 f4 f5
      rcases Nat.eq_zero_or_pos n with hn0 | hn0
      · have hd : decide (0 < (n : Int)) = false := by rw [decide_eq_false_iff_not]; omega
        have hsep : (if 0 < n then [32] else ([32, 40, 32] : Str)) = [32, 40, 32] := by rw [if_neg (by omega)]
        rw [hsep] at ha3
        simp only [List.length_cons, List.length_nil] at ha3
        (conv => whnf); repeat' (first | ((first | refine bdec ?_ ?_ | refine bnot ?_ ?_ | refine bsel_intro ?_ ?_ | skip) <;> intro hc <;> (try simp (disch := omega) only [nm, dArgDefs_len, dFieldDefs_len, dTypeDefs_len, dSchemas_len, dArgDefs_0, dArgDefs_1, dFieldDefs_0, dFieldDefs_1, dFieldDefs_2, dFieldDefs_3, dFieldDefs_4, dTypeDefs_0, dTypeDefs_1, dSchemas_0, dToks_len, dToks_0, dToks_1, dToks_2, Nat.reduceAdd, hx, hf, ha, hd, Bool.false_eq_true, if_false, Int.reduceToNat, List.getElem?_cons_zero, List.getElem?_cons_succ, Option.getD_some, getS_str, wrapI] at hc) <;> conv => whnf) | (refine .head _ rfl (by kernel_rfl) ?_; conv => whnf) | (refine w50 ?_; conv => whnf) | (refine w51 (by omega) ?_ <;> conv => whnf) | (apply pcall; (focus (intro _ _ hk; first | exact w50 hk | exact w51 (by omega) ?_ hk)); conv => whnf) | (refine And.intro ?_ ?_; (focus ((first | omega | decide | (simp (disch := omega) only [nm, dArgDefs_len, dFieldDefs_len, dTypeDefs_len, dSchemas_len, dArgDefs_0, dArgDefs_1, dFieldDefs_0, dFieldDefs_1, dFieldDefs_2, dFieldDefs_3, dFieldDefs_4, dTypeDefs_0, dTypeDefs_1, dSchemas_0, dToks_len, dToks_0, dToks_1, dToks_2, Nat.reduceAdd, hx, hf, ha, hd, Bool.false_eq_true, if_false, Int.reduceToNat, List.getElem?_cons_zero, List.getElem?_cons_succ, Option.getD_some, getS_str, wrapI] <;> omega) | (simp [strOf, nm, dArgDefs_len, dFieldDefs_len, dTypeDefs_len, dSchemas_len, dArgDefs_0, dArgDefs_1, dFieldDefs_0, dFieldDefs_1, dFieldDefs_2, dFieldDefs_3, dFieldDefs_4, dTypeDefs_0, dTypeDefs_1, dSchemas_0, dToks_len, dToks_0, dToks_1, dToks_2, Nat.reduceAdd, hx, hf, ha, hd, Bool.false_eq_true, if_false, Int.reduceToNat, List.getElem?_cons_zero, List.getElem?_cons_succ, Option.getD_some, getS_str] <;> omega) | exact Nat.le_of_ble_eq_true rfl | rfl); done)); conv => whnf) | (rw [vv]; conv => whnf))
        · have hc : a2 = true := hc
          subst hc
          refine eqI (rec3 (n + 1) (by omega) (by omega)) ?_
          rw [argsP_take f2 0 n _ (of_getD ha (by omega)), Nat.zero_add, wrapS (by omega), argP, hsep]
          simp only [nm, dArgDefs_len, dFieldDefs_len, dTypeDefs_len, dSchemas_len, dArgDefs_0, dArgDefs_1, dFieldDefs_0, dFieldDefs_1, dFieldDefs_2, dFieldDefs_3, dFieldDefs_4, dTypeDefs_0, dTypeDefs_1, dSchemas_0, dToks_len, dToks_0, dToks_1, dToks_2, Nat.reduceAdd, hx, hf, ha, hd, Bool.false_eq_true, if_false, Int.reduceToNat, List.getElem?_cons_zero, List.getElem?_cons_succ, Option.getD_some, getS_str]
          simp
        · have hc : a2 = false := hc
          subst hc
          refine eqI (rec3 (n + 1) (by omega) (by omega)) ?_
          rw [argsP_take f2 0 n _ (of_getD ha (by omega)), Nat.zero_add, wrapS (by omega), argP, hsep]
          simp only [nm, dArgDefs_len, dFieldDefs_len, dTypeDefs_len, dSchemas_len, dArgDefs_0, dArgDefs_1, dFieldDefs_0, dFieldDefs_1, dFieldDefs_2, dFieldDefs_3, dFieldDefs_4, dTypeDefs_0, dTypeDefs_1, dSchemas_0, dToks_len, dToks_0, dToks_1, dToks_2, Nat.reduceAdd, hx, hf, ha, hd, Bool.false_eq_true, if_false, Int.reduceToNat, List.getElem?_cons_zero, List.getElem?_cons_succ, Option.getD_some, getS_str]
          simp
        all_goals
          refine eqI (rec2 (k + 1) (by omega) (by omega)) ?_
          rw [flatS_succ fldP (of_getD hf (by omega)), wrapS (by omega), htn (by omega)]
          simp only [nm, dArgDefs_len, dFieldDefs_len, dTypeDefs_len, dSchemas_len, dArgDefs_0, dArgDefs_1, dFieldDefs_0, dFieldDefs_1, dFieldDefs_2, dFieldDefs_3, dFieldDefs_4, dTypeDefs_0, dTypeDefs_1, dSchemas_0, dToks_len, dToks_0, dToks_1, dToks_2, Nat.reduceAdd, hx, hf, Int.natCast_pos] at *
          simp_all [fldP]
      · have hd : decide (0 < (n : Int)) = true := by rw [decide_eq_true_iff]; omega
        have hsep : (if 0 < n then [32] else ([32, 40, 32] : Str)) = [32] := by rw [if_pos (by omega)]
        rw [hsep] at ha3
        simp only [List.length_cons, List.length_nil] at ha3
        (conv => whnf); repeat' (first | ((first | refine bdec ?_ ?_ | refine bnot ?_ ?_ | refine bsel_intro ?_ ?_ | skip) <;> intro hc <;> (try simp (disch := omega) only [nm, dArgDefs_len, dFieldDefs_len, dTypeDefs_len, dSchemas_len, dArgDefs_0, dArgDefs_1, dFieldDefs_0, dFieldDefs_1, dFieldDefs_2, dFieldDefs_3, dFieldDefs_4, dTypeDefs_0, dTypeDefs_1, dSchemas_0, dToks_len, dToks_0, dToks_1, dToks_2, Nat.reduceAdd, hx, hf, ha, hd, eq_self, if_true, Int.reduceToNat, List.getElem?_cons_zero, List.getElem?_cons_succ, Option.getD_some, getS_str, wrapI] at hc) <;> conv => whnf) | (refine .head _ rfl (by kernel_rfl) ?_; conv => whnf) | (refine w50 ?_; conv => whnf) | (refine w51 (by omega) ?_ <;> conv => whnf) | (apply pcall; (focus (intro _ _ hk; first | exact w50 hk | exact w51 (by omega) ?_ hk)); conv => whnf) | (refine And.intro ?_ ?_; (focus ((first | omega | decide | (simp (disch := omega) only [nm, dArgDefs_len, dFieldDefs_len, dTypeDefs_len, dSchemas_len, dArgDefs_0, dArgDefs_1, dFieldDefs_0, dFieldDefs_1, dFieldDefs_2, dFieldDefs_3, dFieldDefs_4, dTypeDefs_0, dTypeDefs_1, dSchemas_0, dToks_len, dToks_0, dToks_1, dToks_2, Nat.reduceAdd, hx, hf, ha, hd, eq_self, if_true, Int.reduceToNat, List.getElem?_cons_zero, List.getElem?_cons_succ, Option.getD_some, getS_str, wrapI] <;> omega) | (simp [strOf, nm, dArgDefs_len, dFieldDefs_len, dTypeDefs_len, dSchemas_len, dArgDefs_0, dArgDefs_1, dFieldDefs_0, dFieldDefs_1, dFieldDefs_2, dFieldDefs_3, dFieldDefs_4, dTypeDefs_0, dTypeDefs_1, dSchemas_0, dToks_len, dToks_0, dToks_1, dToks_2, Nat.reduceAdd, hx, hf, ha, hd, eq_self, if_true, Int.reduceToNat, List.getElem?_cons_zero, List.getElem?_cons_succ, Option.getD_some, getS_str] <;> omega) | exact Nat.le_of_ble_eq_true rfl | rfl); done)); conv => whnf) | (rw [vv]; conv => whnf))
        · have hc : a2 = true := hc
          subst hc
          refine eqI (rec3 (n + 1) (by omega) (by omega)) ?_
          rw [argsP_take f2 0 n _ (of_getD ha (by omega)), Nat.zero_add, wrapS (by omega), argP, hsep]
          simp only [nm, dArgDefs_len, dFieldDefs_len, dTypeDefs_len, dSchemas_len, dArgDefs_0, dArgDefs_1, dFieldDefs_0, dFieldDefs_1, dFieldDefs_2, dFieldDefs_3, dFieldDefs_4, dTypeDefs_0, dTypeDefs_1, dSchemas_0, dToks_len, dToks_0, dToks_1, dToks_2, Nat.reduceAdd, hx, hf, ha, hd, eq_self, if_true, Int.reduceToNat, List.getElem?_cons_zero, List.getElem?_cons_succ, Option.getD_some, getS_str]
          simp
        · have hc : a2 = false := hc
          subst hc
          refine eqI (rec3 (n + 1) (by omega) (by omega)) ?_
          rw [argsP_take f2 0 n _ (of_getD ha (by omega)), Nat.zero_add, wrapS (by omega), argP, hsep]
          simp only [nm, dArgDefs_len, dFieldDefs_len, dTypeDefs_len, dSchemas_len, dArgDefs_0, dArgDefs_1, dFieldDefs_0, dFieldDefs_1, dFieldDefs_2, dFieldDefs_3, dFieldDefs_4, dTypeDefs_0, dTypeDefs_1, dSchemas_0, dToks_len, dToks_0, dToks_1, dToks_2, Nat.reduceAdd, hx, hf, ha, hd, eq_self, if_true, Int.reduceToNat, List.getElem?_cons_zero, List.getElem?_cons_succ, Option.getD_some, getS_str]
          simp
        all_goals
          refine eqI (rec2 (k + 1) (by omega) (by omega)) ?_
          rw [flatS_succ fldP (of_getD hf (by omega)), wrapS (by omega), htn (by omega)]
          simp only [nm, dArgDefs_len, dFieldDefs_len, dTypeDefs_len, dSchemas_len, dArgDefs_0, dArgDefs_1, dFieldDefs_0, dFieldDefs_1, dFieldDefs_2, dFieldDefs_3, dFieldDefs_4, dTypeDefs_0, dTypeDefs_1, dSchemas_0, dToks_len, dToks_0, dToks_1, dToks_2, Nat.reduceAdd, hx, hf, Int.natCast_pos] at *
          simp_all [fldP]
    · refine eqI (rec (i + 1) (by omega) (by omega)) ?_
      rw [List.take_add_one (l := ts), of_getD hx (by omega), wrapS (by omega), List.take_of_length_le (l := x.2) (by omega)]
      simp [dStr, typP]
  · show (prT ts).length ≤ 4294967296; omega
  · exact h
end Go.Proofs.SL
