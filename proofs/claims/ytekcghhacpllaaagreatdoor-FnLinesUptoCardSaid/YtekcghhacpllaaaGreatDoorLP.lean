/- Contracts of functions of this program, by the evaluator EN. No conditions but those that each theorem states. -/
import Derived.Test.YtekcghhacpllaaaGreatDoorKJ
import Derived.Test.YtekcghhacpllaaaGreatDoorLW
set_option linter.unusedVariables false
set_option linter.unusedSimpArgs false
set_option maxRecDepth 100000
set_option maxHeartbeats 8000000
namespace Go.Proofs.SL
open Go Go.Proofs Go.Proofs.EN Go.Proofs.VT
variable {T : Tabs}
/-! ### A document's text -/
def valT (v : QVal) : Str := if v.1 = 1 then Lib.itoa v.2.1 else if v.1 = 2 then (if v.2.1 = 1 then [116, 114, 117, 101] else [102, 97, 108, 115, 101]) else if v.1 = 4 then 36 :: v.2.2 else [110, 117, 108, 108]
def headT (x : QSel) : Str := if x.kind = 1 then (if x.alias = [] then x.name else x.alias ++ [58, 32] ++ x.name) else if x.kind = 2 then [46, 46, 46, 32] ++ x.name else if x.name = [] then [46, 46, 46] else [46, 46, 46] ++ ([32, 111, 110, 32] ++ x.name)
def argT (n : Nat) (a : QArg) : Str := (if 0 < n then [32] else [40]) ++ a.1 ++ [58, 32] ++ valT a.2
def argsX : Nat → List QArg → Str
  | _, [] => []
  | n, a :: r => argT n a ++ argsX (n + 1) r
def dirT (y : QDir) : Str := [32, 64] ++ (if y.1 then [115, 107, 105, 112] else [105, 110, 99, 108, 117, 100, 101]) ++ [40, 105, 102, 58, 32] ++ valT y.2 ++ [41]
def ownT (x : QSel) : Str := headT x ++ argsX 0 x.args ++ (if 0 < x.args.length then [41] else []) ++ (x.dirs.map dirT).flatten
mutual
def selT : QSel → Str
  | ⟨k, a, n, ar, di, ss⟩ => ownT ⟨k, a, n, ar, di, ss⟩ ++ (if 0 < ss.length then [32, 123] ++ selsT ss ++ [32, 125] else [])
def selsT : List QSel → Str
  | [] => []
  | x :: r => 32 :: selT x ++ selsT r
end
def textT (ss : List QSel) : Str := [123] ++ selsT ss ++ [32, 125]
theorem selT_eq (x : QSel) : selT x = ownT x ++ (if 0 < x.sels.length then [32, 123] ++ selsT x.sels ++ [32, 125] else []) := by obtain ⟨k, a, n, ar, di, ss⟩ := x; rw [selT]
theorem selsT_nil : selsT [] = [] := by rw [selsT]
theorem selsT_cons (x : QSel) (r : List QSel) : selsT (x :: r) = 32 :: selT x ++ selsT r := by rw [selsT]
theorem selsT_append : ∀ a b : List QSel, selsT (a ++ b) = selsT a ++ selsT b
  | [], b => by simp [selsT_nil]
  | x :: r, b => by rw [List.cons_append, selsT_cons, selsT_cons, selsT_append r b]; simp
theorem selsT_succ {ss : List QSel} {i : Nat} {x : QSel} (h : ss[i]? = some x) : selsT (ss.take (i + 1)) = selsT (ss.take i) ++ (32 :: selT x) := by
  rw [List.take_add_one, h, selsT_append]; simp [selsT_cons, selsT_nil]
theorem selsT_take (ss : List QSel) (i : Nat) : (selsT (ss.take i)).length ≤ (selsT ss).length := by
  have h := selsT_append (ss.take i) (ss.drop i)
  rw [List.take_append_drop] at h
  rw [h, List.length_append]; omega
/-- Values that can be told. -/
def valP (v : QVal) : Prop := -9223372036854775808 ≤ v.2.1 ∧ v.2.1 ≤ 9223372036854775807 ∧ (v.1 = 2 → 0 ≤ v.2.1 ∧ v.2.1 ≤ 1)
def ownP (x : QSel) : Prop := (∀ a ∈ x.args, valP a.2) ∧ ∀ y ∈ x.dirs, valP y.2
mutual
def vpS : QSel → Prop
  | ⟨k, a, n, ar, di, ss⟩ => ownP ⟨k, a, n, ar, di, ss⟩ ∧ vpL ss
def vpL : List QSel → Prop
  | [] => True
  | x :: r => vpS x ∧ vpL r
end
theorem vpS_eq (x : QSel) : vpS x = (ownP x ∧ vpL x.sels) := by obtain ⟨k, a, n, ar, di, ss⟩ := x; rw [vpS]
theorem vpL_all : ∀ {ss : List QSel}, vpL ss ↔ ∀ x ∈ ss, ownP x ∧ vpL x.sels
  | [] => by rw [vpL]; simp
  | x :: r => by rw [vpL, vpL_all (ss := r), vpS_eq]; simp
theorem w143 {k n : Int} {s : Str} {Kr Kp : C → List Ob → R} (hv : valP (k, n, s)) (hl : (valT (k, n, s)).length ≤ 1000000) (h : Kr (.d (.str (valT (k, n, s)))) []) : Wp T Tryz.prog tt 143 [.agg [.d (.int .i64 k), .d (.int .i64 n), .d (.str s)]] [] Kr Kp := by
  obtain ⟨h1, h2, h3⟩ := hv
  simp only at h1 h2 h3
  have hi := itoa_len (n := n) ⟨h1, h2⟩
  by_cases hk : k = 2
  · subst hk
    have hn := h3 rfl
    obtain rfl | rfl : n = 0 ∨ n = 1 := by omega
    all_goals
      refine go (k := 143) (own := true) (cap := .deep) Tryz.func143 (by kernel_rfl) ?_
      (conv => whnf); repeat' (first | ((first | refine bdec ?_ ?_ | refine bnot ?_ ?_ | refine bsel_intro ?_ ?_ | skip) <;> intro hc <;> (try simp (disch := omega) only [nm, nq, Nat.reduceAdd, wrapI] at hc) <;> conv => whnf) | (refine .head _ rfl (by kernel_rfl) ?_; conv => whnf) | (refine w94 ⟨h1, h2⟩ ?_; conv => whnf) | (apply pcall; (focus (intro _ _ hk; first | exact w94 ⟨h1, h2⟩ hk)); conv => whnf) | (refine And.intro ?_ ?_; (focus ((first | omega | decide | (simp (disch := omega) only [nm, nq, Nat.reduceAdd, wrapI] <;> omega) | (simp [strOf, nm, nq, Nat.reduceAdd] <;> omega) | exact Nat.le_of_ble_eq_true rfl | rfl); done)); conv => whnf) | (rw [vv]; conv => whnf) | (refine NilP.mk fun nb hnb => ?_; conv => whnf))
      all_goals exact h
  · have hs : k = 4 → s.length ≤ 1000000 := fun e => by subst e; simp [valT] at hl; omega
    refine go (k := 143) (own := true) (cap := .deep) Tryz.func143 (by kernel_rfl) ?_
    (conv => whnf); repeat' (first | ((first | refine bdec ?_ ?_ | refine bnot ?_ ?_ | refine bsel_intro ?_ ?_ | skip) <;> intro hc <;> (try simp (disch := omega) only [nm, nq, Nat.reduceAdd, wrapI] at hc) <;> conv => whnf) | (refine .head _ rfl (by kernel_rfl) ?_; conv => whnf) | (refine w94 ⟨h1, h2⟩ ?_; conv => whnf) | (apply pcall; (focus (intro _ _ hk; first | exact w94 ⟨h1, h2⟩ hk)); conv => whnf) | (refine And.intro ?_ ?_; (focus ((first | omega | decide | (simp (disch := omega) only [nm, nq, Nat.reduceAdd, wrapI] <;> omega) | (simp [strOf, nm, nq, Nat.reduceAdd] <;> omega) | exact Nat.le_of_ble_eq_true rfl | rfl); done)); conv => whnf) | (rw [vv]; conv => whnf) | (refine NilP.mk fun nb hnb => ?_; conv => whnf))
    all_goals first
      | exact absurd hc hk
      | (refine krS h ?_; simp [valT, *]; done)
      | omega
end Go.Proofs.SL
