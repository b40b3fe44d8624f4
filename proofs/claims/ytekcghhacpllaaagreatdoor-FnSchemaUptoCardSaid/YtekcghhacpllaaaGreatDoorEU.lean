/- Contracts of functions of this program, by the evaluator EN; part EU. No conditions but those that each theorem states. -/
import Derived.Test.YtekcghhacpllaaaGreatDoorEHd
set_option linter.unusedVariables false
namespace Go.Proofs.VT
open Go Go.Proofs Go.Proofs.EN
theorem wrapI {n : Int} (h : -9223372036854775808 ≤ n) (h2 : n ≤ 9223372036854775807) : IntKind.wrap IntKind.i64 n = n := by
  rw [IntKind.wrap_i64]; omega
theorem wrapN {n : Nat} (h : n ≤ 9223372036854775807) : IntKind.wrap IntKind.i64 (n : Int) = n := wrapI (by omega) (by omega)
theorem wrapS {n : Nat} (h : n < 9223372036854775807) : IntKind.wrap IntKind.i64 ((n : Int) + 1) = ((n + 1 : Nat) : Int) := by
  rw [wrapI (by omega) (by omega)]; rfl
theorem wrapU8 {n : Int} (h : 0 ≤ n) (h2 : n ≤ 255) : IntKind.wrap IntKind.u8 n = n := by
  have : IntKind.wrap IntKind.u8 n = n % 256 := by simp [IntKind.wrap, IntKind.bits, IntKind.signed]
  rw [this]; omega
theorem eqI {I : St → Prop} {s s' : St} (h : I s) (e : s = s') : I s' := e ▸ h
end Go.Proofs.VT
namespace Go.Proofs.VT
open Go Go.Proofs Go.Proofs.EN
theorem bdec {p : Prop} [Decidable p] {x y : R} (h1 : p → x) (h2 : ¬ p → y) : bsel (decide p) x y :=
  bsel_intro (fun h => h1 (of_decide_eq_true h)) (fun h => h2 (of_decide_eq_false h))
theorem bnot {p : Prop} [Decidable p] {x y : R} (h1 : ¬ p → x) (h2 : p → y) : bsel (!decide p) x y :=
  bsel_intro (fun h => h1 (by simpa using h)) (fun h => h2 (by simpa using h))
theorem natlt {a b : Nat} (h : a < b) : (0 : Int) ≤ (a : Int) ∧ (a : Int) < (b : Int) := ⟨by omega, by omega⟩
/-- What a look at an element yields. -/
theorem wpArgs {T : Tabs} {P : Program} {t : TypeId → Option TI} {f : FuncId} {xs xs' : List C} {os : List Ob} {Kr Kp : C → List Ob → R} (e : xs = xs') (h : Wp T P t f xs' os Kr Kp) : Wp T P t f xs os Kr Kp := e ▸ h
end Go.Proofs.VT
namespace Go.Proofs.VT
open Go Go.Proofs Go.Proofs.EN
theorem cgo {b : Bool} {x y : R} (h : x) (hb : b = true) : (bif b then x else y) := by subst hb; exact h
end Go.Proofs.VT
namespace Go.Proofs.VT
theorem vv (v : Nat) : Nat.beq v v = true := by simp
end Go.Proofs.VT
namespace Go.Proofs.VT
open Go Go.Proofs Go.Proofs.EN
theorem wpObs {T : Tabs} {P : Program} {t : TypeId → Option TI} {f : FuncId} {xs xs' : List C} {os os' : List Ob} {Kr Kp : C → List Ob → R} (e : xs = xs') (e2 : os = os') (h : Wp T P t f xs' os' Kr Kp) : Wp T P t f xs os Kr Kp := e ▸ e2 ▸ h
end Go.Proofs.VT

namespace Go.Proofs.VT
open Go Go.Proofs Go.Proofs.EN
/-- A loop by what holds at its head. -/
theorem loopBy {σ : Type} {step : St → (Ex → St → R) → R} {nm : St → Option St} {K : Ex → St → R} (mk : σ → St) (P : σ → Prop) (μ : σ → Nat) (a : σ) (h : P a)
    (hs : ∀ a (I : St → R), P a → (∀ a', P a' → μ a' < μ a → I (mk a')) → roundP step nm (mk a) I K) : LoopP step nm (mk a) K := by
  refine ⟨fun I hI => ?_⟩
  have key : ∀ n a, μ a < n → P a → I (mk a) := by
    intro n
    induction n with
    | zero => intro a hn; omega
    | succ n ih =>
      intro a hn hp
      exact hI _ (hs a I hp fun a' hp' hl => ih a' (by omega) hp')
  exact key _ a (Nat.lt_succ_self _) h
end Go.Proofs.VT

namespace Go.Proofs.VT
theorem toNat_sub1 (k : Nat) : ((k : Int) - 1).toNat = k - 1 := by omega
theorem toNat_add1 (k : Nat) : ((k : Int) + 1).toNat = k + 1 := by omega
open Go Go.Proofs Go.Proofs.EN
theorem loopOf {σ : Type} {step : St → (Ex → St → R) → R} {nm : St → Option St} {K : Ex → St → R} {s : St} (mk : σ → St) (P : σ → Prop) (μ : σ → Nat) (a : σ) (e : s = mk a) (h : P a)
    (hs : ∀ a (I : St → R), P a → (∀ a', P a' → μ a' < μ a → I (mk a')) → roundP step nm (mk a) I K) : LoopP step nm s K := e ▸ loopBy mk P μ a h hs
theorem krB {Kr : C → List Ob → R} {os : List Ob} {b c : Bool} (h : Kr (.d (.bool b)) os) (e : b = c) : Kr (.d (.bool c)) os := by rw [← e]; exact h
theorem pcall {W : Sum} {xs : List C} {c' : C} {K : C → R} (h : ∀ Kr Kp : C → List Ob → R, Kr c' [] → W xs [] Kr Kp) (hk : K c') : ∃ c', PureW W xs c' ∧ K c' := ⟨c', h, hk⟩
theorem krI {Kr : C → List Ob → R} {os : List Ob} {k : IntKind} {a b : Int} (h : Kr (.d (.int k a)) os) (e : a = b) : Kr (.d (.int k b)) os := by rw [← e]; exact h
end Go.Proofs.VT
namespace Go.Proofs.VT
open Go Go.Proofs Go.Proofs.EN
theorem goRec {T : Tabs} {f : FuncId} {fn : Func} (hf : Tryz.prog.funcs[f]? = some fn) {k : Nat} {own : Bool} {cap : Md} {args : List C} {os : List Ob} {K : List Ob → R} (h : evalRec (env T k own cap) fn args os K) : WpD T Tryz.prog tt f args os K :=
  WpD.of ttok rfl (fun _ _ _ _ _ h => h) mixed hf h
/-- A function that defers a closure which recovers, when nothing panics. -/
theorem goD {T : Tabs} {f gf : FuncId} {fn gfn : Func} (hf : Tryz.prog.funcs[f]? = some fn) (hg : Tryz.prog.funcs[gf]? = some gfn) (hn : (fn.name == "runtime.NumGoroutine") = false) (hgn : (gfn.name == "runtime.NumGoroutine") = false) (hgb : gfn.body.isSome = true) {k kg : Nat} {own : Bool} {cap : Md} {args : List C} {os : List Ob} {Kr Kp : C → List Ob → R}
    (h : evalFnD (env T k own cap) gf (evalRec (env T kg own cap) gfn) fn args os Kr) : Wp T Tryz.prog tt f args os Kr Kp := by
  obtain ⟨b, hb⟩ := Option.isSome_iff_exists.1 hgb
  have hne : ¬ gfn.name = "runtime.NumGoroutine" := by simpa using hgn
  exact Wp.ofD ttok rfl (fun _ _ _ _ _ h => h) mixed hf hn (fun _ _ _ h => goRec hg h) (fun args w => by simp [callFunc, hg, hne, hb]) h
end Go.Proofs.VT
