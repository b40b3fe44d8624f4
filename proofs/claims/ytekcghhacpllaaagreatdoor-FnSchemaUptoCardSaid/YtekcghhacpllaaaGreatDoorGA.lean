/- Contracts of functions of this program, by the evaluator EN; part GA. No conditions but those that each theorem states. -/
import Derived.Test.YtekcghhacpllaaaGreatDoorEU
set_option linter.unusedVariables false
set_option linter.unusedSimpArgs false
set_option maxRecDepth 100000
set_option maxHeartbeats 8000000
namespace Go.Proofs.SL
open Go Go.Proofs Go.Proofs.EN Go.Proofs.VT
variable {T : Tabs}
/-! ### Words of all proofs -/
def dStr (ws : List Str) : List (List D) := ws.map fun w => [.str w]
@[simp] theorem dStr_len (ws : List Str) : (dStr ws).length = ws.length := by simp [dStr]
theorem dStr_0 (ws : List Str) (i : Nat) : getS ((((dStr ws)[i]?).getD [])[0]?.getD .z) = (ws[i]?).getD [] := by
  rw [dStr, List.getElem?_map]; cases ws[i]? <;> rfl
def dInt (ns : List Int) : List (List D) := ns.map fun n => [.int .i64 n]
@[simp] theorem dInt_len (ws : List Int) : (dInt ws).length = ws.length := by simp [dInt]
theorem dInt_0 (ws : List Int) (i : Nat) : getI ((((dInt ws)[i]?).getD [])[0]?.getD .z) = (ws[i]?).getD 0 := by
  rw [dInt, List.getElem?_map]; cases ws[i]? <;> rfl
theorem big_eq : big = 4294967296 := rfl
theorem norm_b (d : D) : CK.norm .bool d = .bool (getB d) := rfl
theorem norm_i (k : IntKind) (d : D) : CK.norm (.int k) d = .int k (getI d) := rfl
theorem norm_s (d : D) : CK.norm .str d = .str (getS d) := rfl
theorem norm_l (e : TypeId) (d : D) : CK.norm (.list e) d = .list e (getL d) := rfl
theorem norm_f (d : D) : CK.norm .iface d = d := rfl
theorem nm : type_of% (And.intro @List.getD_eq_getElem?_getD.{0} (And.intro @Int.toNat_natCast (And.intro @toNat_sub1 (And.intro @toNat_add1 (And.intro @big_eq (And.intro @norm_b (And.intro @norm_i (And.intro @norm_s (And.intro @norm_l (And.intro @norm_f (And.intro @dStr_len (And.intro @dStr_0 (And.intro @dInt_len (And.intro @dInt_0 (And.intro @Nat.zero_add (And.intro @List.length_map.{0,0} (And.intro @List.length_take.{0} (And.intro @List.length_append.{0} (And.intro @List.length_cons.{0} (And.intro @List.length_nil.{0} (And.intro @List.length_replicate.{0} not_true_eq_false))))))))))))))))))))) :=
  And.intro @List.getD_eq_getElem?_getD.{0} (And.intro @Int.toNat_natCast (And.intro @toNat_sub1 (And.intro @toNat_add1 (And.intro @big_eq (And.intro @norm_b (And.intro @norm_i (And.intro @norm_s (And.intro @norm_l (And.intro @norm_f (And.intro @dStr_len (And.intro @dStr_0 (And.intro @dInt_len (And.intro @dInt_0 (And.intro @Nat.zero_add (And.intro @List.length_map.{0,0} (And.intro @List.length_take.{0} (And.intro @List.length_append.{0} (And.intro @List.length_cons.{0} (And.intro @List.length_nil.{0} (And.intro @List.length_replicate.{0} not_true_eq_false))))))))))))))))))))
/-! ### All below a number -/
def allN (n : Nat) (f : Nat → Bool) : Bool := (List.range n).all f
theorem allN_no {n : Nat} {f : Nat → Bool} (j : Nat) (hj : j < n) (h : f j = false) : allN n f = false := by
  rw [allN, List.all_eq_false]
  exact ⟨j, by simpa using hj, by simp [h]⟩
theorem allN_yes {n : Nat} {f : Nat → Bool} (h : ∀ j, j < n → f j = true) : allN n f = true := by
  rw [allN, List.all_eq_true]
  intro j hj
  exact h j (by simpa using hj)
theorem lt_succ_split {n : Nat} {P : Nat → Prop} (h : ∀ j, j < n → P j) (hn : P n) : ∀ j, j < n + 1 → P j := fun j hj => by
  rcases Nat.lt_or_ge j n with h1 | h1
  · exact h j h1
  · obtain rfl : j = n := by omega
    exact hn
/-! ### Between two numbers -/
def inB (n lo hi : Int) : Bool := decide (lo ≤ n ∧ n ≤ hi)
theorem inB_of {n lo hi : Int} : inB n lo hi = true ↔ lo ≤ n ∧ n ≤ hi := by simp [inB]
end Go.Proofs.SL
