/- Contracts of functions of this program, by the evaluator EN. No conditions but those that each theorem states. -/
import Derived.Test.YtekcghhacpllaaaGreatDoorEN26
/- What the evaluator is told of the functions: how their regions are cut, what lives at their loops' heads, how they are called. -/
namespace Go.Proofs.VT
open Go Go.Proofs Go.Proofs.EN
def draws : LTree (LTree Nat) := (.node 156 (.node 3 10 .leaf .leaf) (.node 62 (.node 7 3 .leaf .leaf) (.node 17 (.node 6 8 .leaf .leaf) (.node 8 (.node 7 7 .leaf .leaf) (.node 6 (.node 18 18 .leaf .leaf) (.node 3 (.node 10 12 .leaf .leaf) .leaf .leaf) .leaf) (.node 15 (.node 15 19 (.node 11 9 .leaf .leaf) .leaf) (.node 11 (.node 5 25 .leaf .leaf) .leaf .leaf) .leaf)) (.node 49 (.node 3 3 .leaf .leaf) (.node 45 (.node 7 5 .leaf .leaf) (.node 43 (.node 14 15 .leaf .leaf) .leaf .leaf) .leaf) (.node 56 (.node 6 8 .leaf .leaf) .leaf .leaf))) (.node 104 (.node 9 13 (.node 8 7 .leaf .leaf) .leaf) (.node 65 (.node 11 12 (.node 5 12 .leaf .leaf) .leaf) (.node 64 (.node 9 25 .leaf .leaf) (.node 63 (.node 5 3 .leaf .leaf) .leaf .leaf) .leaf) (.node 94 (.node 7 9 .leaf .leaf) (.node 66 (.node 10 29 .leaf .leaf) .leaf .leaf) .leaf)) (.node 145 (.node 2 2 .leaf .leaf) (.node 127 (.node 5 17 .leaf .leaf) (.node 126 (.node 3 21 (.node 2 9 .leaf .leaf) (.node 4 9 .leaf .leaf)) .leaf .leaf) .leaf) (.node 147 (.node 2 9 .leaf .leaf) .leaf .leaf)))) (.node 202 (.node 4 7 .leaf .leaf) (.node 180 (.node 4 12 .leaf .leaf) (.node 177 (.node 13 16 .leaf .leaf) (.node 176 (.node 20 22 (.node 14 23 .leaf .leaf) .leaf) (.node 160 (.node 7 5 .leaf .leaf) .leaf .leaf) .leaf) (.node 179 (.node 9 10 .leaf .leaf) (.node 178 (.node 7 9 (.node 4 13 .leaf .leaf) .leaf) .leaf .leaf) .leaf)) (.node 188 (.node 1 4 .leaf .leaf) (.node 183 (.node 15 24 .leaf .leaf) (.node 181 (.node 4 7 .leaf .leaf) .leaf .leaf) .leaf) (.node 189 (.node 1 4 .leaf .leaf) .leaf .leaf))) (.node 223 (.node 11 8 .leaf .leaf) (.node 211 (.node 3 9 (.node 1 19 .leaf .leaf) .leaf) (.node 210 (.node 1 38 .leaf .leaf) (.node 207 (.node 12 22 (.node 10 9 .leaf .leaf) .leaf) .leaf .leaf) .leaf) (.node 222 (.node 30 11 (.node 27 7 .leaf .leaf) (.node 32 10 .leaf .leaf)) .leaf .leaf)) (.node 234 (.node 11 10 (.node 4 6 .leaf .leaf) (.node 20 13 .leaf .leaf)) (.node 230 (.node 7 19 .leaf .leaf) (.node 225 (.node 10 10 .leaf .leaf) .leaf .leaf) .leaf) (.node 237 (.node 1 9 .leaf .leaf) .leaf .leaf)))))
def lives : LTree (LTree (List Nat)) := (.node 131 (.node 0 [0, 1, 2, 3, 9, 10] .leaf .leaf) (.node 66 (.node 2 [1, 3, 4] (.node 0 [1, 3] .leaf .leaf) .leaf) (.node 41 (.node 0 [1, 3, 19, 20, 21] .leaf .leaf) (.node 17 (.node 0 [0, 1, 5] .leaf .leaf) (.node 8 (.node 2 [4, 14, 15, 16, 29, 30, 31] (.node 0 [4, 14, 15, 16] .leaf .leaf) .leaf) (.node 7 (.node 2 [1, 4, 18, 19, 20, 50, 51, 52] (.node 0 [1, 18, 19, 20] .leaf .leaf) .leaf) (.node 6 (.node 2 [1, 3, 4, 5] (.node 0 [1, 3] .leaf .leaf) (.node 4 [1, 3, 4, 5, 6, 7] .leaf .leaf)) .leaf .leaf) .leaf) (.node 15 (.node 2 [1, 4, 5, 6] (.node 0 [1, 4, 5] .leaf .leaf) (.node 4 [1, 4, 5, 6, 7, 8, 9] .leaf .leaf)) (.node 14 (.node 2 [4, 6, 18, 19, 20, 25, 26, 27] (.node 0 [4, 18, 19, 20] .leaf .leaf) (.node 4 [4, 6, 8, 9, 18, 19, 20, 25, 26, 27, 39, 40, 41] .leaf .leaf)) .leaf .leaf) .leaf)) (.node 33 (.node 0 [1, 2, 5] .leaf .leaf) (.node 32 (.node 0 [1, 2, 5] .leaf .leaf) (.node 30 (.node 0 [1, 2, 5] .leaf .leaf) .leaf .leaf) .leaf) (.node 37 (.node 0 [3, 35, 36, 37] .leaf .leaf) (.node 36 (.node 0 [0, 5, 6] .leaf .leaf) .leaf .leaf) .leaf))) (.node 54 (.node 0 [1, 2, 15, 16, 17] .leaf .leaf) (.node 45 (.node 2 [0, 2, 3, 4] (.node 0 [0, 2, 3] .leaf .leaf) .leaf) (.node 43 (.node 2 [1, 3, 4, 5, 6] (.node 0 [1, 3, 4] .leaf .leaf) (.node 4 [1, 3, 4, 5, 6, 7, 8] .leaf .leaf)) (.node 42 (.node 0 [3, 7, 8, 9] .leaf .leaf) .leaf .leaf) .leaf) (.node 52 (.node 0 [1, 2, 15, 16, 17] .leaf .leaf) (.node 48 (.node 3 [1, 8, 63, 64, 65] (.node 1 [0, 1, 5, 39, 40, 41] .leaf .leaf) .leaf) .leaf .leaf) .leaf)) (.node 64 (.node 2 [1, 3, 4, 18, 19, 20, 25, 26, 27] (.node 0 [1, 18, 19, 20] .leaf .leaf) .leaf) (.node 63 (.node 0 [0, 2, 3, 4] .leaf .leaf) (.node 56 (.node 0 [0, 1, 12, 13] .leaf .leaf) .leaf .leaf) .leaf) (.node 65 (.node 0 [1, 3, 8] .leaf .leaf) .leaf .leaf)))) (.node 105 (.node 0 [0, 3, 4] .leaf .leaf) (.node 81 (.node 0 [0, 4] .leaf .leaf) (.node 72 (.node 0 [0, 1, 7, 8] .leaf .leaf) (.node 71 (.node 0 [0, 3] .leaf .leaf) (.node 67 (.node 2 [1, 3, 8, 9] (.node 0 [1, 3, 4] .leaf .leaf) .leaf) .leaf .leaf) .leaf) (.node 80 (.node 0 [0, 1, 5, 6] .leaf .leaf) (.node 77 (.node 0 [0, 1, 7, 8] .leaf .leaf) .leaf .leaf) .leaf)) (.node 99 (.node 0 [0, 3, 4, 5] .leaf .leaf) (.node 96 (.node 0 [0, 1, 5, 6] .leaf .leaf) (.node 86 (.node 0 [0, 2, 3] .leaf .leaf) .leaf .leaf) .leaf) (.node 104 (.node 0 [1, 2, 4, 5] .leaf .leaf) .leaf .leaf))) (.node 116 (.node 0 [0, 1, 7, 8] .leaf .leaf) (.node 110 (.node 0 [3, 9, 10, 11] .leaf .leaf) (.node 107 (.node 0 [1, 2, 3, 4] .leaf .leaf) (.node 106 (.node 2 [1, 2, 4, 6, 7, 8, 9, 10] (.node 0 [1, 2, 4, 6, 7, 8] .leaf .leaf) .leaf) .leaf .leaf) .leaf) (.node 113 (.node 0 [1, 2, 3, 7, 8] .leaf .leaf) (.node 111 (.node 0 [3, 7, 8, 9] .leaf .leaf) .leaf .leaf) .leaf)) (.node 123 (.node 0 [0, 1, 7, 8] .leaf .leaf) (.node 120 (.node 1 [0, 2, 67, 68, 69] .leaf .leaf) (.node 119 (.node 0 [0, 3] .leaf .leaf) .leaf .leaf) .leaf) (.node 127 (.node 0 [1, 3, 4] .leaf .leaf) .leaf .leaf))))) (.node 181 (.node 0 [1, 3] .leaf .leaf) (.node 163 (.node 0 [0, 1, 5, 6] .leaf .leaf) (.node 154 (.node 0 [0, 1, 3] .leaf .leaf) (.node 144 (.node 0 [1, 3, 4] .leaf .leaf) (.node 138 (.node 0 [0, 3] .leaf .leaf) (.node 132 (.node 0 [0, 4, 5, 6] .leaf .leaf) .leaf .leaf) .leaf) (.node 152 (.node 0 [0, 1, 5] .leaf .leaf) (.node 151 (.node 0 [0, 1, 6, 7] .leaf .leaf) .leaf .leaf) .leaf)) (.node 161 (.node 0 [0, 1, 5, 6] .leaf .leaf) (.node 160 (.node 0 [2, 4, 6, 7] .leaf .leaf) (.node 158 (.node 0 [0, 3, 4] .leaf .leaf) .leaf .leaf) .leaf) (.node 162 (.node 0 [0, 1, 5] .leaf .leaf) .leaf .leaf))) (.node 176 (.node 3 [1, 3, 5] (.node 1 [1, 3, 4] .leaf .leaf) .leaf) (.node 168 (.node 0 [2, 4] .leaf .leaf) (.node 165 (.node 0 [5, 6, 47, 48, 49] .leaf .leaf) (.node 164 (.node 0 [1, 3, 4] .leaf .leaf) .leaf .leaf) .leaf) (.node 175 (.node 2 [0, 1, 3, 4, 10, 11, 12, 13, 17] (.node 0 [0, 1, 3, 4, 10, 11, 12, 13, 14, 15, 16] .leaf .leaf) .leaf) (.node 171 (.node 1 [0, 1, 5, 6, 7, 8, 9, 10] .leaf .leaf) .leaf .leaf) .leaf)) (.node 179 (.node 2 [1, 3, 4, 5] (.node 0 [1, 3] .leaf .leaf) (.node 4 [1, 3, 4, 5, 8, 9] .leaf .leaf)) (.node 178 (.node 0 [2, 3, 5] .leaf .leaf) (.node 177 (.node 2 [1, 2, 4, 5, 6, 7, 8] (.node 0 [1, 2, 4, 5, 6] .leaf .leaf) .leaf) .leaf .leaf) .leaf) (.node 180 (.node 0 [1, 3] .leaf .leaf) .leaf .leaf)))) (.node 214 (.node 2 [1, 4] (.node 0 [1, 3] .leaf .leaf) .leaf) (.node 204 (.node 0 [1, 2, 4, 6] .leaf .leaf) (.node 196 (.node 2 [0, 1, 5, 6, 7, 8, 10] (.node 0 [0, 1, 5, 6, 7, 8, 9] .leaf .leaf) .leaf) (.node 186 (.node 0 [0, 1, 6, 7] .leaf .leaf) (.node 182 (.node 2 [0, 4, 5] (.node 0 [0, 4, 5] .leaf .leaf) .leaf) .leaf .leaf) .leaf) (.node 203 (.node 0 [0, 3, 4] .leaf .leaf) (.node 202 (.node 0 [2, 3, 4, 5, 9] .leaf .leaf) .leaf .leaf) .leaf)) (.node 207 (.node 2 [2, 5, 6, 7, 8, 9] (.node 0 [2, 5, 6] .leaf .leaf) .leaf) (.node 206 (.node 0 [1, 2, 3, 4, 10] .leaf .leaf) (.node 205 (.node 0 [0, 1, 5] .leaf .leaf) .leaf .leaf) .leaf) (.node 212 (.node 0 [0, 1, 5] .leaf .leaf) .leaf .leaf))) (.node 226 (.node 0 [0, 1] .leaf .leaf) (.node 222 (.node 0 [2, 4, 5, 7, 9] .leaf .leaf) (.node 219 (.node 2 [4, 6, 7, 8] (.node 0 [0, 4, 5] .leaf .leaf) .leaf) (.node 215 (.node 3 [1, 8, 9, 10, 11, 12, 13, 99, 100, 101] .leaf .leaf) .leaf .leaf) .leaf) (.node 225 (.node 2 [0, 1, 5, 6, 7] (.node 0 [0, 1, 5] .leaf .leaf) .leaf) (.node 223 (.node 0 [1, 2, 5, 6] .leaf .leaf) .leaf .leaf) .leaf)) (.node 235 (.node 0 [0, 3] .leaf .leaf) (.node 234 (.node 4 [1, 2, 9] (.node 2 [1, 2, 5, 8] (.node 0 [1, 2, 5] .leaf .leaf) .leaf) (.node 6 [1, 2, 9, 10, 11] .leaf .leaf)) (.node 233 (.node 0 [0, 3, 4, 5] .leaf .leaf) .leaf .leaf) .leaf) (.node 236 (.node 0 [0, 3] .leaf .leaf) .leaf .leaf))))))
def modes : LTree Nat := .leaf
def base (T : Tabs) : Base := { tt := tt, tup := tup, W := fun f args os Kr Kp => Wp T Tryz.prog tt f args os Kr Kp, mode := fun f => match modes.find f with | some m => m | none => 0 }
def env (T : Tabs) (k : Nat) (own : Bool) (cap : Md) : Env :=
  { B := base T, draw := fun r => match draws.find k with | some t => t.find r | none => none, live := fun r => match lives.find k with | some t => t.find r | none => none, cap := cap, own := own, np := 0, nt := 0 }
theorem mixed : Tryz.prog.follows .mixedOrders = true := by kernel_rfl
theorem go {T : Tabs} {f : FuncId} {fn : Func} (hf : Tryz.prog.funcs[f]? = some fn) (hn : (fn.name == "runtime.NumGoroutine") = false) {k : Nat} {own : Bool} {cap : Md} {args : List C} {os : List Ob} {Kr Kp : C → List Ob → R} (h : evalFn (env T k own cap) fn args os Kr Kp) : Wp T Tryz.prog tt f args os Kr Kp :=
  Wp.of ttok rfl (fun _ _ _ _ _ h => h) mixed hf hn h
end Go.Proofs.VT
set_option linter.unusedVariables false
namespace Go.Proofs.VT
open Go Go.Proofs Go.Proofs.EN
theorem wrapI {n : Int} (h : -9223372036854775808 ≤ n) (h2 : n ≤ 9223372036854775807) : IntKind.wrap IntKind.i64 n = n := by
  rw [IntKind.wrap_i64]; omega
theorem wrapS {n : Nat} (h : n < 9223372036854775807) : IntKind.wrap IntKind.i64 ((n : Int) + 1) = ((n + 1 : Nat) : Int) := by
  rw [wrapI (by omega) (by omega)]; rfl
theorem wrapU8 {n : Int} (h : 0 ≤ n) (h2 : n ≤ 255) : IntKind.wrap IntKind.u8 n = n := by
  have : IntKind.wrap IntKind.u8 n = n % 256 := by simp [IntKind.wrap, IntKind.bits, IntKind.signed]
  rw [this]; omega
theorem eqI {I : St → Prop} {s s' : St} (h : I s) (e : s = s') : I s' := e ▸ h
end Go.Proofs.VT
namespace Go.Proofs.VT
open Go Go.Proofs Go.Proofs.EN
theorem bdec {p : Prop} [Decidable p] {x y : R} (h1 : p → x) (h2 : ¬ p → y) : bsel (decide p) x y :=
  bsel_intro (fun h => h1 (of_decide_eq_true h)) (fun h => h2 (of_decide_eq_false h))
theorem bnot {p : Prop} [Decidable p] {x y : R} (h1 : ¬ p → x) (h2 : p → y) : bsel (!decide p) x y :=
  bsel_intro (fun h => h1 (by simpa using h)) (fun h => h2 (by simpa using h))
/-- What a look at an element yields. -/
theorem wpArgs {T : Tabs} {P : Program} {t : TypeId → Option TI} {f : FuncId} {xs xs' : List C} {os : List Ob} {Kr Kp : C → List Ob → R} (e : xs = xs') (h : Wp T P t f xs' os Kr Kp) : Wp T P t f xs os Kr Kp := e ▸ h
end Go.Proofs.VT
namespace Go.Proofs.VT
open Go Go.Proofs Go.Proofs.EN
end Go.Proofs.VT
namespace Go.Proofs.VT
theorem vv (v : Nat) : Nat.beq v v = true := by simp
end Go.Proofs.VT
namespace Go.Proofs.VT
open Go Go.Proofs Go.Proofs.EN
end Go.Proofs.VT

namespace Go.Proofs.VT
open Go Go.Proofs Go.Proofs.EN
/-- A loop by what holds at its head. -/
theorem loopBy {σ : Type} {step : St → (Ex → St → R) → R} {nm : St → Option St} {K : Ex → St → R} (mk : σ → St) (P : σ → Prop) (μ : σ → Nat) (a : σ) (h : P a)
    (hs : ∀ a (I : St → R), P a → (∀ a', P a' → μ a' < μ a → I (mk a')) → roundP step nm (mk a) I K) : LoopP step nm (mk a) K := by
  refine ⟨fun I hI => ?_⟩
  have key : ∀ n a, μ a < n → P a → I (mk a) := by
    intro n
    induction n with
    | zero => intro a hn; omega
    | succ n ih =>
      intro a hn hp
      exact hI _ (hs a I hp fun a' hp' hl => ih a' (by omega) hp')
  exact key _ a (Nat.lt_succ_self _) h
end Go.Proofs.VT

namespace Go.Proofs.VT
theorem toNat_sub1 (k : Nat) : ((k : Int) - 1).toNat = k - 1 := by omega
theorem toNat_add1 (k : Nat) : ((k : Int) + 1).toNat = k + 1 := by omega
open Go Go.Proofs Go.Proofs.EN
theorem loopOf {σ : Type} {step : St → (Ex → St → R) → R} {nm : St → Option St} {K : Ex → St → R} {s : St} (mk : σ → St) (P : σ → Prop) (μ : σ → Nat) (a : σ) (e : s = mk a) (h : P a)
    (hs : ∀ a (I : St → R), P a → (∀ a', P a' → μ a' < μ a → I (mk a')) → roundP step nm (mk a) I K) : LoopP step nm s K := e ▸ loopBy mk P μ a h hs
theorem krB {Kr : C → List Ob → R} {os : List Ob} {b c : Bool} (h : Kr (.d (.bool b)) os) (e : b = c) : Kr (.d (.bool c)) os := by rw [← e]; exact h
theorem pcall {W : Sum} {xs : List C} {c' : C} {K : C → R} (h : ∀ Kr Kp : C → List Ob → R, Kr c' [] → W xs [] Kr Kp) (hk : K c') : ∃ c', PureW W xs c' ∧ K c' := ⟨c', h, hk⟩
theorem krI {Kr : C → List Ob → R} {os : List Ob} {k : IntKind} {a b : Int} (h : Kr (.d (.int k a)) os) (e : a = b) : Kr (.d (.int k b)) os := by rw [← e]; exact h
end Go.Proofs.VT
namespace Go.Proofs.VT
open Go Go.Proofs Go.Proofs.EN
end Go.Proofs.VT
set_option linter.unusedVariables false
set_option linter.unusedSimpArgs false
set_option maxRecDepth 100000
set_option maxHeartbeats 8000000
namespace Go.Proofs.SL
open Go Go.Proofs Go.Proofs.EN Go.Proofs.VT
variable {T : Tabs}
/-! ### Words of all proofs -/
def dStr (ws : List Str) : List (List D) := ws.map fun w => [.str w]
@[simp] theorem dStr_len (ws : List Str) : (dStr ws).length = ws.length := by simp [dStr]
theorem dStr_0 (ws : List Str) (i : Nat) : getS ((((dStr ws)[i]?).getD [])[0]?.getD .z) = (ws[i]?).getD [] := by
  rw [dStr, List.getElem?_map]; cases ws[i]? <;> rfl
def dInt (ns : List Int) : List (List D) := ns.map fun n => [.int .i64 n]
@[simp] theorem dInt_len (ws : List Int) : (dInt ws).length = ws.length := by simp [dInt]
theorem dInt_0 (ws : List Int) (i : Nat) : getI ((((dInt ws)[i]?).getD [])[0]?.getD .z) = (ws[i]?).getD 0 := by
  rw [dInt, List.getElem?_map]; cases ws[i]? <;> rfl
theorem big_eq : big = 4294967296 := rfl
theorem norm_b (d : D) : CK.norm .bool d = .bool (getB d) := rfl
theorem norm_i (k : IntKind) (d : D) : CK.norm (.int k) d = .int k (getI d) := rfl
theorem norm_s (d : D) : CK.norm .str d = .str (getS d) := rfl
theorem norm_l (e : TypeId) (d : D) : CK.norm (.list e) d = .list e (getL d) := rfl
theorem norm_f (d : D) : CK.norm .iface d = d := rfl
theorem nm : type_of% (And.intro @List.getD_eq_getElem?_getD.{0} (And.intro @Int.toNat_natCast (And.intro @toNat_sub1 (And.intro @toNat_add1 (And.intro @big_eq (And.intro @norm_b (And.intro @norm_i (And.intro @norm_s (And.intro @norm_l (And.intro @norm_f (And.intro @dStr_len (And.intro @dStr_0 (And.intro @dInt_len (And.intro @dInt_0 (And.intro @Nat.zero_add (And.intro @List.length_map.{0,0} (And.intro @List.length_take.{0} (And.intro @List.length_append.{0} (And.intro @List.length_cons.{0} (And.intro @List.length_nil.{0} (And.intro @List.length_replicate.{0} not_true_eq_false))))))))))))))))))))) :=
  And.intro @List.getD_eq_getElem?_getD.{0} (And.intro @Int.toNat_natCast (And.intro @toNat_sub1 (And.intro @toNat_add1 (And.intro @big_eq (And.intro @norm_b (And.intro @norm_i (And.intro @norm_s (And.intro @norm_l (And.intro @norm_f (And.intro @dStr_len (And.intro @dStr_0 (And.intro @dInt_len (And.intro @dInt_0 (And.intro @Nat.zero_add (And.intro @List.length_map.{0,0} (And.intro @List.length_take.{0} (And.intro @List.length_append.{0} (And.intro @List.length_cons.{0} (And.intro @List.length_nil.{0} (And.intro @List.length_replicate.{0} not_true_eq_false))))))))))))))))))))
/-! ### All below a number -/
def allN (n : Nat) (f : Nat → Bool) : Bool := (List.range n).all f
theorem allN_no {n : Nat} {f : Nat → Bool} (j : Nat) (hj : j < n) (h : f j = false) : allN n f = false := by
  rw [allN, List.all_eq_false]
  exact ⟨j, by simpa using hj, by simp [h]⟩
theorem allN_yes {n : Nat} {f : Nat → Bool} (h : ∀ j, j < n → f j = true) : allN n f = true := by
  rw [allN, List.all_eq_true]
  intro j hj
  exact h j (by simpa using hj)
theorem lt_succ_split {n : Nat} {P : Nat → Prop} (h : ∀ j, j < n → P j) (hn : P n) : ∀ j, j < n + 1 → P j := fun j hj => by
  rcases Nat.lt_or_ge j n with h1 | h1
  · exact h j h1
  · obtain rfl : j = n := by omega
    exact hn
/-! ### Between two numbers -/
def inB (n lo hi : Int) : Bool := decide (lo ≤ n ∧ n ≤ hi)
theorem inB_of {n lo hi : Int} : inB n lo hi = true ↔ lo ≤ n ∧ n ≤ hi := by simp [inB]
end Go.Proofs.SL
set_option linter.unusedVariables false
set_option linter.unusedSimpArgs false
set_option maxRecDepth 100000
set_option maxHeartbeats 8000000
namespace Go.Proofs.SL
open Go Go.Proofs Go.Proofs.EN Go.Proofs.VT
variable {T : Tabs}
theorem w29 {n lo hi : Int} {Kr Kp : C → List Ob → R} (h : Kr (.d (.bool (inB n lo hi))) []) : Wp T Tryz.prog tt 29 [.d (.int .i64 n), .d (.int .i64 lo), .d (.int .i64 hi)] [] Kr Kp := by
  refine go (k := 29) (own := true) (cap := .deep) Tryz.func29 (by kernel_rfl) ?_
  (conv => whnf); repeat' (first | ((first | refine bdec ?_ ?_ | refine bnot ?_ ?_ | refine bsel_intro ?_ ?_ | skip) <;> intro hc <;> (try simp (disch := omega) only [nm, wrapI] at hc) <;> conv => whnf) | (refine .head _ rfl (by kernel_rfl) ?_; conv => whnf) | (refine And.intro ?_ ?_; (focus ((first | omega | decide | (simp (disch := omega) only [nm, wrapI] <;> omega) | (simp [strOf, nm] <;> omega) | exact Nat.le_of_ble_eq_true rfl | rfl); done)); conv => whnf) | (rw [vv]; conv => whnf) | (refine NilP.mk fun nb hnb => ?_; conv => whnf))
  all_goals simp_all [inB]
theorem w34 {n lo hi : Int} {Kr Kp : C → List Ob → R} (h : Kr (.d (.bool (inB n lo hi))) []) : Wp T Tryz.prog tt 34 [.d (.int .i64 n), .d (.int .i64 lo), .d (.int .i64 hi)] [] Kr Kp := by
  refine go (k := 34) (own := true) (cap := .deep) Tryz.func34 (by kernel_rfl) ?_
  (conv => whnf); repeat' (first | ((first | refine bdec ?_ ?_ | refine bnot ?_ ?_ | refine bsel_intro ?_ ?_ | skip) <;> intro hc <;> (try simp (disch := omega) only [nm, wrapI] at hc) <;> conv => whnf) | (refine .head _ rfl (by kernel_rfl) ?_; conv => whnf) | (refine And.intro ?_ ?_; (focus ((first | omega | decide | (simp (disch := omega) only [nm, wrapI] <;> omega) | (simp [strOf, nm] <;> omega) | exact Nat.le_of_ble_eq_true rfl | rfl); done)); conv => whnf) | (rw [vv]; conv => whnf) | (refine NilP.mk fun nb hnb => ?_; conv => whnf))
  all_goals simp_all [inB]
theorem w133 {n : Int} {Kr Kp : C → List Ob → R} (h : Kr (.d (.bool (inB n (-2147483648) 2147483647))) []) : Wp T Tryz.prog tt 133 [.d (.int .i64 n)] [] Kr Kp := by
  refine go (k := 133) (own := true) (cap := .deep) Tryz.func133 (by kernel_rfl) ?_
  (conv => whnf); repeat' (first | ((first | refine bdec ?_ ?_ | refine bnot ?_ ?_ | refine bsel_intro ?_ ?_ | skip) <;> intro hc <;> (try simp (disch := omega) only [nm, wrapI] at hc) <;> conv => whnf) | (refine .head _ rfl (by kernel_rfl) ?_; conv => whnf) | (refine w29 ?_; conv => whnf) | (apply pcall; (focus (intro _ _ hk; first | exact w29 hk)); conv => whnf) | (refine And.intro ?_ ?_; (focus ((first | omega | decide | (simp (disch := omega) only [nm, wrapI] <;> omega) | (simp [strOf, nm] <;> omega) | exact Nat.le_of_ble_eq_true rfl | rfl); done)); conv => whnf) | (rw [vv]; conv => whnf) | (refine NilP.mk fun nb hnb => ?_; conv => whnf))
  exact h
theorem w130 {n : Int} {Kr Kp : C → List Ob → R} (h : Kr (.d (.bool (inB n (-2147483648) 2147483647))) []) : Wp T Tryz.prog tt 130 [.d (.int .i64 n)] [] Kr Kp := by
  refine go (k := 130) (own := true) (cap := .deep) Tryz.func130 (by kernel_rfl) ?_
  (conv => whnf); repeat' (first | ((first | refine bdec ?_ ?_ | refine bnot ?_ ?_ | refine bsel_intro ?_ ?_ | skip) <;> intro hc <;> (try simp (disch := omega) only [nm, wrapI] at hc) <;> conv => whnf) | (refine .head _ rfl (by kernel_rfl) ?_; conv => whnf) | (refine w34 ?_; conv => whnf) | (apply pcall; (focus (intro _ _ hk; first | exact w34 hk)); conv => whnf) | (refine And.intro ?_ ?_; (focus ((first | omega | decide | (simp (disch := omega) only [nm, wrapI] <;> omega) | (simp [strOf, nm] <;> omega) | exact Nat.le_of_ble_eq_true rfl | rfl); done)); conv => whnf) | (rw [vv]; conv => whnf) | (refine NilP.mk fun nb hnb => ?_; conv => whnf))
  exact h
end Go.Proofs.SL
set_option linter.unusedVariables false
set_option linter.unusedSimpArgs false
set_option maxRecDepth 100000
set_option maxHeartbeats 8000000
namespace Go.Proofs.SL
open Go Go.Proofs Go.Proofs.EN Go.Proofs.VT
variable {T : Tabs}
/-! ### Documents -/
abbrev QVal := Int × Int × Str
abbrev QArg := Str × QVal
abbrev QDir := Bool × QVal
structure QSel where
  kind : Int
  alias : Str
  name : Str
  args : List QArg
  dirs : List QDir
  sels : List QSel
instance : Inhabited QSel := ⟨⟨0, [], [], [], [], []⟩⟩
abbrev QDef := Int × Str × Str × List QSel
abbrev QDoc := List QDef
def dQArg (x : QArg) : List D := [.str x.1, .int .i64 x.2.1, .int .i64 x.2.2.1, .str x.2.2.2]
def dQArgs (xs : List QArg) : List (List D) := xs.map dQArg
def dQDir (x : QDir) : List D := [.bool x.1, .int .i64 x.2.1, .int .i64 x.2.2.1, .str x.2.2.2]
def dQDirs (xs : List QDir) : List (List D) := xs.map dQDir
mutual
def dQSel (tA tD tS : TypeId) : QSel → List D
  | ⟨k, a, n, ar, di, ss⟩ => [.int .i64 k, .str a, .str n, .list tA (dQArgs ar), .list tD (dQDirs di), .list tS (dQSels tA tD tS ss)]
def dQSels (tA tD tS : TypeId) : List QSel → List (List D)
  | [] => []
  | x :: r => dQSel tA tD tS x :: dQSels tA tD tS r
end
theorem dQSels_map (tA tD tS : TypeId) : ∀ xs : List QSel, dQSels tA tD tS xs = xs.map (dQSel tA tD tS)
  | [] => by rw [dQSels]; rfl
  | x :: r => by rw [dQSels, dQSels_map tA tD tS r]; rfl
theorem dQSel_eq (tA tD tS : TypeId) (x : QSel) : dQSel tA tD tS x = [.int .i64 x.kind, .str x.alias, .str x.name, .list tA (dQArgs x.args), .list tD (dQDirs x.dirs), .list tS (dQSels tA tD tS x.sels)] := by
  obtain ⟨k, a, n, ar, di, ss⟩ := x; rw [dQSel]
def dQDef (tA tD tS : TypeId) (x : QDef) : List D := [.int .i64 x.1, .str x.2.1, .str x.2.2.1, .list tS (dQSels tA tD tS x.2.2.2)]
def dQDefs (tA tD tS : TypeId) (xs : List QDef) : List (List D) := xs.map (dQDef tA tD tS)
section
variable (tA tD tS : TypeId)
@[simp] theorem dQArgs_len (xs : List QArg) : (dQArgs xs).length = xs.length := by simp [dQArgs]
@[simp] theorem dQDirs_len (xs : List QDir) : (dQDirs xs).length = xs.length := by simp [dQDirs]
@[simp] theorem dQSels_len (xs : List QSel) : (dQSels tA tD tS xs).length = xs.length := by simp [dQSels_map]
@[simp] theorem dQDefs_len (xs : List QDef) : (dQDefs tA tD tS xs).length = xs.length := by simp [dQDefs]
theorem dQArgs_0 (xs : List QArg) (i : Nat) : getS ((((dQArgs xs)[i]?).getD [])[0]?.getD .z) = ((xs[i]?).getD default).1 := by rw [dQArgs, List.getElem?_map]; cases xs[i]? <;> rfl
theorem dQArgs_1 (xs : List QArg) (i : Nat) : getI ((((dQArgs xs)[i]?).getD [])[1]?.getD .z) = ((xs[i]?).getD default).2.1 := by rw [dQArgs, List.getElem?_map]; cases xs[i]? <;> rfl
theorem dQArgs_2 (xs : List QArg) (i : Nat) : getI ((((dQArgs xs)[i]?).getD [])[2]?.getD .z) = ((xs[i]?).getD default).2.2.1 := by rw [dQArgs, List.getElem?_map]; cases xs[i]? <;> rfl
theorem dQArgs_3 (xs : List QArg) (i : Nat) : getS ((((dQArgs xs)[i]?).getD [])[3]?.getD .z) = ((xs[i]?).getD default).2.2.2 := by rw [dQArgs, List.getElem?_map]; cases xs[i]? <;> rfl
theorem dQDirs_0 (xs : List QDir) (i : Nat) : getB ((((dQDirs xs)[i]?).getD [])[0]?.getD .z) = ((xs[i]?).getD default).1 := by rw [dQDirs, List.getElem?_map]; cases xs[i]? <;> rfl
theorem dQDirs_1 (xs : List QDir) (i : Nat) : getI ((((dQDirs xs)[i]?).getD [])[1]?.getD .z) = ((xs[i]?).getD default).2.1 := by rw [dQDirs, List.getElem?_map]; cases xs[i]? <;> rfl
theorem dQDirs_2 (xs : List QDir) (i : Nat) : getI ((((dQDirs xs)[i]?).getD [])[2]?.getD .z) = ((xs[i]?).getD default).2.2.1 := by rw [dQDirs, List.getElem?_map]; cases xs[i]? <;> rfl
theorem dQDirs_3 (xs : List QDir) (i : Nat) : getS ((((dQDirs xs)[i]?).getD [])[3]?.getD .z) = ((xs[i]?).getD default).2.2.2 := by rw [dQDirs, List.getElem?_map]; cases xs[i]? <;> rfl
theorem dQSels_at (xs : List QSel) (i : Nat) : (dQSels tA tD tS xs)[i]? = (xs[i]?).map (dQSel tA tD tS) := by rw [dQSels_map, List.getElem?_map]
theorem dQSels_0 (xs : List QSel) (i : Nat) : getI ((((dQSels tA tD tS xs)[i]?).getD [])[0]?.getD .z) = ((xs[i]?).getD default).kind := by rw [dQSels_at]; cases xs[i]? <;> simp [dQSel_eq] <;> rfl
theorem dQSels_1 (xs : List QSel) (i : Nat) : getS ((((dQSels tA tD tS xs)[i]?).getD [])[1]?.getD .z) = ((xs[i]?).getD default).alias := by rw [dQSels_at]; cases xs[i]? <;> simp [dQSel_eq] <;> rfl
theorem dQSels_2 (xs : List QSel) (i : Nat) : getS ((((dQSels tA tD tS xs)[i]?).getD [])[2]?.getD .z) = ((xs[i]?).getD default).name := by rw [dQSels_at]; cases xs[i]? <;> simp [dQSel_eq] <;> rfl
theorem dQSels_3 (xs : List QSel) (i : Nat) : getL ((((dQSels tA tD tS xs)[i]?).getD [])[3]?.getD .z) = dQArgs ((xs[i]?).getD default).args := by rw [dQSels_at]; cases xs[i]? <;> simp [dQSel_eq] <;> rfl
theorem dQSels_4 (xs : List QSel) (i : Nat) : getL ((((dQSels tA tD tS xs)[i]?).getD [])[4]?.getD .z) = dQDirs ((xs[i]?).getD default).dirs := by rw [dQSels_at]; cases xs[i]? <;> simp [dQSel_eq] <;> rfl
theorem dQSels_5 (xs : List QSel) (i : Nat) : getL ((((dQSels tA tD tS xs)[i]?).getD [])[5]?.getD .z) = dQSels tA tD tS ((xs[i]?).getD default).sels := by rw [dQSels_at]; cases xs[i]? with
  | none => simp only [Option.map_none, Option.getD_none]; rw [show (default : QSel).sels = [] from rfl, dQSels]; rfl
  | some x => simp only [Option.map_some, Option.getD_some, dQSel_eq]; rfl
theorem dQDefs_0 (xs : List QDef) (i : Nat) : getI ((((dQDefs tA tD tS xs)[i]?).getD [])[0]?.getD .z) = ((xs[i]?).getD default).1 := by rw [dQDefs, List.getElem?_map]; cases xs[i]? <;> rfl
theorem dQDefs_1 (xs : List QDef) (i : Nat) : getS ((((dQDefs tA tD tS xs)[i]?).getD [])[1]?.getD .z) = ((xs[i]?).getD default).2.1 := by rw [dQDefs, List.getElem?_map]; cases xs[i]? <;> rfl
theorem dQDefs_2 (xs : List QDef) (i : Nat) : getS ((((dQDefs tA tD tS xs)[i]?).getD [])[2]?.getD .z) = ((xs[i]?).getD default).2.2.1 := by rw [dQDefs, List.getElem?_map]; cases xs[i]? <;> rfl
theorem dQDefs_3 (xs : List QDef) (i : Nat) : getL ((((dQDefs tA tD tS xs)[i]?).getD [])[3]?.getD .z) = dQSels tA tD tS ((xs[i]?).getD default).2.2.2 := by rw [dQDefs, List.getElem?_map]; cases xs[i]? <;> (first | rfl | (simp [dQDef]; rw [show (default : QDef).2.2.2 = [] from rfl, dQSels]; rfl))
end
/-! ### What is right -/
mutual
def qCntS : QSel → Nat
  | ⟨_, _, _, _, _, ss⟩ => 1 + qCnt ss
def qCnt : List QSel → Nat
  | [] => 0
  | x :: r => qCntS x + qCnt r
end
theorem qCntS_eq (x : QSel) : qCntS x = 1 + qCnt x.sels := by obtain ⟨_, _, _, _, _, _⟩ := x; rw [qCntS]
theorem qCnt_cons (x : QSel) (r : List QSel) : qCnt (x :: r) = 1 + qCnt x.sels + qCnt r := by rw [qCnt, qCntS_eq]
theorem qCnt_nil : qCnt [] = 0 := by rw [qCnt]
theorem qCnt_append : ∀ (a b : List QSel), qCnt (a ++ b) = qCnt a + qCnt b
  | [], b => by simp [qCnt_nil]
  | x :: r, b => by rw [List.cons_append, qCnt_cons, qCnt_cons, qCnt_append r b]; omega
theorem qCnt_mem {x : QSel} {l : List QSel} (h : x ∈ l) : 1 + qCnt x.sels ≤ qCnt l := by
  obtain ⟨a, b, rfl⟩ := List.append_of_mem h
  rw [qCnt_append, qCnt_cons]; omega
theorem nq : type_of% (And.intro @dQArgs_len (And.intro @dQDirs_len (And.intro @dQSels_len (And.intro @dQDefs_len (And.intro @dQArgs_0 (And.intro @dQArgs_1 (And.intro @dQArgs_2 (And.intro @dQArgs_3 (And.intro @dQDirs_0 (And.intro @dQDirs_1 (And.intro @dQDirs_2 (And.intro @dQDirs_3 (And.intro @dQSels_0 (And.intro @dQSels_1 (And.intro @dQSels_2 (And.intro @dQSels_3 (And.intro @dQSels_4 (And.intro @dQSels_5 (And.intro @dQDefs_0 (And.intro @dQDefs_1 (And.intro @dQDefs_2 @dQDefs_3))))))))))))))))))))) :=
  And.intro @dQArgs_len (And.intro @dQDirs_len (And.intro @dQSels_len (And.intro @dQDefs_len (And.intro @dQArgs_0 (And.intro @dQArgs_1 (And.intro @dQArgs_2 (And.intro @dQArgs_3 (And.intro @dQDirs_0 (And.intro @dQDirs_1 (And.intro @dQDirs_2 (And.intro @dQDirs_3 (And.intro @dQSels_0 (And.intro @dQSels_1 (And.intro @dQSels_2 (And.intro @dQSels_3 (And.intro @dQSels_4 (And.intro @dQSels_5 (And.intro @dQDefs_0 (And.intro @dQDefs_1 (And.intro @dQDefs_2 @dQDefs_3))))))))))))))))))))
end Go.Proofs.SL
set_option linter.unusedVariables false
set_option linter.unusedSimpArgs false
set_option maxRecDepth 100000
set_option maxHeartbeats 8000000
namespace Go.Proofs.SL
open Go Go.Proofs Go.Proofs.EN Go.Proofs.VT
variable {T : Tabs}
abbrev ArgDef := Str × Bool
instance : DecidableEq ArgDef := inferInstanceAs (DecidableEq (Str × Bool))
def dArgDef  (x : ArgDef) : List D := [.str x.1, .bool x.2]
def dArgDefs  (xs : List ArgDef) : List (List D) := xs.map (dArgDef )
@[simp] theorem dArgDefs_len  (xs : List ArgDef) : (dArgDefs xs).length = xs.length := by simp [dArgDefs]
theorem dArgDefs_0  (xs : List ArgDef) (i : Nat) : getS ((((dArgDefs xs)[i]?).getD [])[0]?.getD .z) = ((xs[i]?).getD default).1 := by
  rw [dArgDefs, List.getElem?_map]; cases xs[i]? <;> rfl
theorem dArgDefs_1  (xs : List ArgDef) (i : Nat) : getB ((((dArgDefs xs)[i]?).getD [])[1]?.getD .z) = ((xs[i]?).getD default).2 := by
  rw [dArgDefs, List.getElem?_map]; cases xs[i]? <;> rfl
abbrev FieldDef := Str × List ArgDef × Str × Bool × Bool
instance : DecidableEq FieldDef := inferInstanceAs (DecidableEq (Str × List ArgDef × Str × Bool × Bool))
def dFieldDef (iArgDef : TypeId) (x : FieldDef) : List D := [.str x.1, .list iArgDef (dArgDefs x.2.1), .str x.2.2.1, .bool x.2.2.2.1, .bool x.2.2.2.2]
def dFieldDefs (iArgDef : TypeId) (xs : List FieldDef) : List (List D) := xs.map (dFieldDef iArgDef)
@[simp] theorem dFieldDefs_len (iArgDef : TypeId) (xs : List FieldDef) : (dFieldDefs iArgDef xs).length = xs.length := by simp [dFieldDefs]
theorem dFieldDefs_0 (iArgDef : TypeId) (xs : List FieldDef) (i : Nat) : getS ((((dFieldDefs iArgDef xs)[i]?).getD [])[0]?.getD .z) = ((xs[i]?).getD default).1 := by
  rw [dFieldDefs, List.getElem?_map]; cases xs[i]? <;> rfl
theorem dFieldDefs_1 (iArgDef : TypeId) (xs : List FieldDef) (i : Nat) : getL ((((dFieldDefs iArgDef xs)[i]?).getD [])[1]?.getD .z) = dArgDefs ((xs[i]?).getD default).2.1 := by
  rw [dFieldDefs, List.getElem?_map]; cases xs[i]? <;> rfl
theorem dFieldDefs_2 (iArgDef : TypeId) (xs : List FieldDef) (i : Nat) : getS ((((dFieldDefs iArgDef xs)[i]?).getD [])[2]?.getD .z) = ((xs[i]?).getD default).2.2.1 := by
  rw [dFieldDefs, List.getElem?_map]; cases xs[i]? <;> rfl
theorem dFieldDefs_3 (iArgDef : TypeId) (xs : List FieldDef) (i : Nat) : getB ((((dFieldDefs iArgDef xs)[i]?).getD [])[3]?.getD .z) = ((xs[i]?).getD default).2.2.2.1 := by
  rw [dFieldDefs, List.getElem?_map]; cases xs[i]? <;> rfl
theorem dFieldDefs_4 (iArgDef : TypeId) (xs : List FieldDef) (i : Nat) : getB ((((dFieldDefs iArgDef xs)[i]?).getD [])[4]?.getD .z) = ((xs[i]?).getD default).2.2.2.2 := by
  rw [dFieldDefs, List.getElem?_map]; cases xs[i]? <;> rfl
abbrev TypeDef := Str × List FieldDef
instance : DecidableEq TypeDef := inferInstanceAs (DecidableEq (Str × List FieldDef))
def dTypeDef (iFieldDef : TypeId) (iArgDef : TypeId) (x : TypeDef) : List D := [.str x.1, .list iFieldDef (dFieldDefs iArgDef x.2)]
def dTypeDefs (iFieldDef : TypeId) (iArgDef : TypeId) (xs : List TypeDef) : List (List D) := xs.map (dTypeDef iFieldDef iArgDef)
@[simp] theorem dTypeDefs_len (iFieldDef : TypeId) (iArgDef : TypeId) (xs : List TypeDef) : (dTypeDefs iFieldDef iArgDef xs).length = xs.length := by simp [dTypeDefs]
theorem dTypeDefs_0 (iFieldDef : TypeId) (iArgDef : TypeId) (xs : List TypeDef) (i : Nat) : getS ((((dTypeDefs iFieldDef iArgDef xs)[i]?).getD [])[0]?.getD .z) = ((xs[i]?).getD default).1 := by
  rw [dTypeDefs, List.getElem?_map]; cases xs[i]? <;> rfl
theorem dTypeDefs_1 (iFieldDef : TypeId) (iArgDef : TypeId) (xs : List TypeDef) (i : Nat) : getL ((((dTypeDefs iFieldDef iArgDef xs)[i]?).getD [])[1]?.getD .z) = dFieldDefs iArgDef ((xs[i]?).getD default).2 := by
  rw [dTypeDefs, List.getElem?_map]; cases xs[i]? <;> rfl
abbrev Schema := List TypeDef
instance : DecidableEq Schema := inferInstanceAs (DecidableEq (List TypeDef))
def dSchema (iTypeDef : TypeId) (iFieldDef : TypeId) (iArgDef : TypeId) (x : Schema) : List D := [.list iTypeDef (dTypeDefs iFieldDef iArgDef x)]
def dSchemas (iTypeDef : TypeId) (iFieldDef : TypeId) (iArgDef : TypeId) (xs : List Schema) : List (List D) := xs.map (dSchema iTypeDef iFieldDef iArgDef)
@[simp] theorem dSchemas_len (iTypeDef : TypeId) (iFieldDef : TypeId) (iArgDef : TypeId) (xs : List Schema) : (dSchemas iTypeDef iFieldDef iArgDef xs).length = xs.length := by simp [dSchemas]
theorem dSchemas_0 (iTypeDef : TypeId) (iFieldDef : TypeId) (iArgDef : TypeId) (xs : List Schema) (i : Nat) : getL ((((dSchemas iTypeDef iFieldDef iArgDef xs)[i]?).getD [])[0]?.getD .z) = dTypeDefs iFieldDef iArgDef ((xs[i]?).getD default) := by
  rw [dSchemas, List.getElem?_map]; cases xs[i]? <;> rfl
theorem loopOf3 {α β γ : Type} {step : St → (Ex → St → R) → R} {nm : St → Option St} {K : Ex → St → R} {s : St} (mk : α → β → γ → St) (P : α → β → γ → Prop) (μ : α → β → γ → Nat) (a : α) (b : β) (c : γ) (e : s = mk a b c) (h : P a b c)
    (hs : ∀ a b c (I : St → R), P a b c → (∀ a' b' c', P a' b' c' → μ a' b' c' < μ a b c → I (mk a' b' c')) → roundP step nm (mk a b c) I K) : LoopP step nm s K :=
  loopOf (fun s : α × β × γ => mk s.1 s.2.1 s.2.2) (fun s => P s.1 s.2.1 s.2.2) (fun s => μ s.1 s.2.1 s.2.2) (a, b, c) e h fun s I hp rec => hs s.1 s.2.1 s.2.2 I hp fun a' b' c' => rec (a', b', c')
theorem krS {Kr : C → List Ob → R} {os : List Ob} {a b : Str} (h : Kr (.d (.str a)) os) (e : a = b) : Kr (.d (.str b)) os := by rw [← e]; exact h
theorem krO {Kr : C → List Ob → R} {c : C} {os os' : List Ob} (h : Kr c os) (e : os = os') : Kr c os' := by rw [← e]; exact h
end Go.Proofs.SL
set_option linter.unusedVariables false
set_option linter.unusedSimpArgs false
set_option maxRecDepth 100000
set_option maxHeartbeats 8000000
namespace Go.Proofs.SL
open Go Go.Proofs Go.Proofs.EN Go.Proofs.VT
variable {T : Tabs}
/-! ### Letters, digits, names -/
def letB (c : Int) : Bool := decide (97 ≤ c ∧ c ≤ 122 ∨ 65 ≤ c ∧ c ≤ 90 ∨ c = 95)
def digB (c : Int) : Bool := decide (48 ≤ c ∧ c ≤ 57)
theorem w114 {c : Int} {Kr Kp : C → List Ob → R} (h : Kr (.d (.bool (letB c))) []) : Wp T Tryz.prog tt 114 [.d (.int .u8 c)] [] Kr Kp := by
  refine go (k := 114) (own := true) (cap := .deep) Tryz.func114 (by kernel_rfl) ?_
  (conv => whnf); repeat' (first | ((first | refine bdec ?_ ?_ | refine bnot ?_ ?_ | refine bsel_intro ?_ ?_ | skip) <;> intro hc <;> (try simp (disch := omega) only [nm, wrapI] at hc) <;> conv => whnf) | (refine .head _ rfl (by kernel_rfl) ?_; conv => whnf) | (refine And.intro ?_ ?_; (focus ((first | omega | decide | (simp (disch := omega) only [nm, wrapI] <;> omega) | (simp [strOf, nm] <;> omega) | exact Nat.le_of_ble_eq_true rfl | rfl); done)); conv => whnf) | (rw [vv]; conv => whnf) | (refine NilP.mk fun nb hnb => ?_; conv => whnf))
  all_goals (refine krB h ?_; simp only [letB]; first | (rw [decide_eq_true_iff]; omega) | (rw [decide_eq_false_iff_not]; omega) | (rw [decide_eq_decide]; omega))
theorem w115 {c : Int} {Kr Kp : C → List Ob → R} (h : Kr (.d (.bool (digB c))) []) : Wp T Tryz.prog tt 115 [.d (.int .u8 c)] [] Kr Kp := by
  refine go (k := 115) (own := true) (cap := .deep) Tryz.func115 (by kernel_rfl) ?_
  (conv => whnf); repeat' (first | ((first | refine bdec ?_ ?_ | refine bnot ?_ ?_ | refine bsel_intro ?_ ?_ | skip) <;> intro hc <;> (try simp (disch := omega) only [nm, wrapI] at hc) <;> conv => whnf) | (refine .head _ rfl (by kernel_rfl) ?_; conv => whnf) | (refine And.intro ?_ ?_; (focus ((first | omega | decide | (simp (disch := omega) only [nm, wrapI] <;> omega) | (simp [strOf, nm] <;> omega) | exact Nat.le_of_ble_eq_true rfl | rfl); done)); conv => whnf) | (rw [vv]; conv => whnf) | (refine NilP.mk fun nb hnb => ?_; conv => whnf))
  all_goals (refine krB h ?_; simp only [digB]; first | (rw [decide_eq_true_iff]; omega) | (rw [decide_eq_false_iff_not]; omega) | (rw [decide_eq_decide]; omega))
attribute [irreducible] letB digB
/-- Is it right at a place? -/
def okC (t : Str) (j : Nat) : Bool := letB ((t[j]?.getD 0).toNat : Int) || (decide (j ≠ 0) && digB ((t[j]?.getD 0).toNat : Int))
def nameB (t : Str) : Bool := inB (t.length : Int) 1 40 && allN t.length (okC t)
theorem nameB_len {t : Str} (h : ¬ (1 ≤ (t.length : Int) ∧ (t.length : Int) ≤ 40)) : nameB t = false := by
  have : inB (t.length : Int) 1 40 = false := by simpa [inB] using h
  simp [nameB, this]
theorem nameB_no {t : Str} (j : Nat) (hj : j < t.length) (h : okC t j = false) : nameB t = false := by
  simp [nameB, allN_no j hj h]
theorem nameB_yes {t : Str} (h : ∀ j, j < t.length → okC t j = true) : nameB t = inB (t.length : Int) 1 40 := by
  simp [nameB, allN_yes h]
theorem okC_split {t : Str} {i : Nat} (h : ∀ j, j < i → okC t j = true) (h2 : okC t i = true) : ∀ j, j < i + 1 → okC t j = true := lt_succ_split h h2
theorem w71 {t : Str} {Kr Kp : C → List Ob → R} (h : Kr (.d (.bool (nameB t))) []) : Wp T Tryz.prog tt 71 [.d (.str t)] [] Kr Kp := by
  refine go (k := 71) (own := true) (cap := .deep) Tryz.func71 (by kernel_rfl) ?_
  (conv => whnf); repeat' (first | ((first | refine bdec ?_ ?_ | refine bnot ?_ ?_ | refine bsel_intro ?_ ?_ | skip) <;> intro hc <;> (try simp (disch := omega) only [nm, wrapI] at hc) <;> conv => whnf) | (refine .head _ rfl (by kernel_rfl) ?_; conv => whnf) | (refine w114 ?_; conv => whnf) | (refine w115 ?_; conv => whnf) | (apply pcall; (focus (intro _ _ hk; first | exact w114 hk | exact w115 hk)); conv => whnf) | (refine And.intro ?_ ?_; (focus ((first | omega | decide | (simp (disch := omega) only [nm, wrapI] <;> omega) | (simp [strOf, nm] <;> omega) | exact Nat.le_of_ble_eq_true rfl | rfl); done)); conv => whnf) | (rw [vv]; conv => whnf) | (refine NilP.mk fun nb hnb => ?_; conv => whnf))
  · refine krB h (nameB_len ?_); omega
  · refine krB h (nameB_len ?_); omega
  · refine krB h (nameB_no 0 (by omega) ?_); simp_all [okC]
  rename_i hc
  refine loopOf (fun i : Nat => ⟨[(0, .d (.str t)), (3, .d (.int .i64 ((i + 1 : Nat) : Int)))], []⟩) (fun i => i + 1 ≤ t.length ∧ ∀ j, j < i + 1 → okC t j = true) (fun i => t.length - i) 0 rfl ⟨by omega, okC_split (fun j hj => by omega) (by simp_all [okC])⟩ ?_
  intro i I ⟨hi, hs⟩ rec
  (conv => whnf); repeat' (first | ((first | refine bdec ?_ ?_ | refine bnot ?_ ?_ | refine bsel_intro ?_ ?_ | skip) <;> intro hc <;> (try simp (disch := omega) only [nm, wrapI] at hc) <;> conv => whnf) | (refine .head _ rfl (by kernel_rfl) ?_; conv => whnf) | (refine w114 ?_; conv => whnf) | (refine w115 ?_; conv => whnf) | (apply pcall; (focus (intro _ _ hk; first | exact w114 hk | exact w115 hk)); conv => whnf) | (refine And.intro ?_ ?_; (focus ((first | omega | decide | (simp (disch := omega) only [nm, wrapI] <;> omega) | (simp [strOf, nm] <;> omega) | exact Nat.le_of_ble_eq_true rfl | rfl); done)); conv => whnf) | (rw [vv]; conv => whnf) | (refine NilP.mk fun nb hnb => ?_; conv => whnf))
  · refine krB h (nameB_no (i + 1) (by omega) ?_); simp_all [okC]
  · refine eqI (rec (i + 1) ⟨by omega, okC_split hs (by simp_all [okC])⟩ (by omega)) ?_
    simp (disch := omega) only [wrapS]
  · refine eqI (rec (i + 1) ⟨by omega, okC_split hs (by simp_all [okC])⟩ (by omega)) ?_
    simp (disch := omega) only [wrapS]
  · refine krB h ?_
    rw [nameB_yes (fun j hj => hs j (by omega))]; simp only [inB, decide_eq_true_iff]; omega
theorem w31 {t : Str} {Kr Kp : C → List Ob → R} (h : Kr (.d (.bool (nameB t))) []) : Wp T Tryz.prog tt 31 [.d (.str t)] [] Kr Kp := by
  refine go (k := 31) (own := true) (cap := .deep) Tryz.func31 (by kernel_rfl) ?_
  (conv => whnf); repeat' (first | ((first | refine bdec ?_ ?_ | refine bnot ?_ ?_ | refine bsel_intro ?_ ?_ | skip) <;> intro hc <;> (try simp (disch := omega) only [nm, wrapI] at hc) <;> conv => whnf) | (refine .head _ rfl (by kernel_rfl) ?_; conv => whnf) | (refine w71 ?_; conv => whnf) | (apply pcall; (focus (intro _ _ hk; first | exact w71 hk)); conv => whnf) | (refine And.intro ?_ ?_; (focus ((first | omega | decide | (simp (disch := omega) only [nm, wrapI] <;> omega) | (simp [strOf, nm] <;> omega) | exact Nat.le_of_ble_eq_true rfl | rfl); done)); conv => whnf) | (rw [vv]; conv => whnf) | (refine NilP.mk fun nb hnb => ?_; conv => whnf))
  exact h
end Go.Proofs.SL
