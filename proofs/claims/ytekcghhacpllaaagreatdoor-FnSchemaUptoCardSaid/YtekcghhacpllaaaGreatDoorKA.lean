/- Contracts of functions of this program, by the evaluator EN; part KA. No conditions but those that each theorem states. -/
import Derived.Test.YtekcghhacpllaaaGreatDoorGA2
set_option linter.unusedVariables false
set_option linter.unusedSimpArgs false
set_option maxRecDepth 100000
set_option maxHeartbeats 8000000
namespace Go.Proofs.SL
open Go Go.Proofs Go.Proofs.EN Go.Proofs.VT
variable {T : Tabs}
abbrev ArgDef := Str × Bool
instance : DecidableEq ArgDef := inferInstanceAs (DecidableEq (Str × Bool))
def dArgDef  (x : ArgDef) : List D := [.str x.1, .bool x.2]
def dArgDefs  (xs : List ArgDef) : List (List D) := xs.map (dArgDef )
@[simp] theorem dArgDefs_len  (xs : List ArgDef) : (dArgDefs xs).length = xs.length := by simp [dArgDefs]
theorem dArgDefs_set  (xs : List ArgDef) (i : Nat) (q : ArgDef) : dArgDefs (xs.set i q) = (dArgDefs xs).set i (dArgDef q) := by simp [dArgDefs, List.map_set]
theorem dArgDefs_0  (xs : List ArgDef) (i : Nat) : getS ((((dArgDefs xs)[i]?).getD [])[0]?.getD .z) = ((xs[i]?).getD default).1 := by
  rw [dArgDefs, List.getElem?_map]; cases xs[i]? <;> rfl
theorem dArgDefs_1  (xs : List ArgDef) (i : Nat) : getB ((((dArgDefs xs)[i]?).getD [])[1]?.getD .z) = ((xs[i]?).getD default).2 := by
  rw [dArgDefs, List.getElem?_map]; cases xs[i]? <;> rfl
abbrev FieldDef := Str × List ArgDef × Str × Bool × Bool
instance : DecidableEq FieldDef := inferInstanceAs (DecidableEq (Str × List ArgDef × Str × Bool × Bool))
def dFieldDef (iArgDef : TypeId) (x : FieldDef) : List D := [.str x.1, .list iArgDef (dArgDefs x.2.1), .str x.2.2.1, .bool x.2.2.2.1, .bool x.2.2.2.2]
def dFieldDefs (iArgDef : TypeId) (xs : List FieldDef) : List (List D) := xs.map (dFieldDef iArgDef)
@[simp] theorem dFieldDefs_len (iArgDef : TypeId) (xs : List FieldDef) : (dFieldDefs iArgDef xs).length = xs.length := by simp [dFieldDefs]
theorem dFieldDefs_set (iArgDef : TypeId) (xs : List FieldDef) (i : Nat) (q : FieldDef) : dFieldDefs iArgDef (xs.set i q) = (dFieldDefs iArgDef xs).set i (dFieldDef iArgDef q) := by simp [dFieldDefs, List.map_set]
theorem dFieldDefs_0 (iArgDef : TypeId) (xs : List FieldDef) (i : Nat) : getS ((((dFieldDefs iArgDef xs)[i]?).getD [])[0]?.getD .z) = ((xs[i]?).getD default).1 := by
  rw [dFieldDefs, List.getElem?_map]; cases xs[i]? <;> rfl
theorem dFieldDefs_1 (iArgDef : TypeId) (xs : List FieldDef) (i : Nat) : getL ((((dFieldDefs iArgDef xs)[i]?).getD [])[1]?.getD .z) = dArgDefs ((xs[i]?).getD default).2.1 := by
  rw [dFieldDefs, List.getElem?_map]; cases xs[i]? <;> rfl
theorem dFieldDefs_2 (iArgDef : TypeId) (xs : List FieldDef) (i : Nat) : getS ((((dFieldDefs iArgDef xs)[i]?).getD [])[2]?.getD .z) = ((xs[i]?).getD default).2.2.1 := by
  rw [dFieldDefs, List.getElem?_map]; cases xs[i]? <;> rfl
theorem dFieldDefs_3 (iArgDef : TypeId) (xs : List FieldDef) (i : Nat) : getB ((((dFieldDefs iArgDef xs)[i]?).getD [])[3]?.getD .z) = ((xs[i]?).getD default).2.2.2.1 := by
  rw [dFieldDefs, List.getElem?_map]; cases xs[i]? <;> rfl
theorem dFieldDefs_4 (iArgDef : TypeId) (xs : List FieldDef) (i : Nat) : getB ((((dFieldDefs iArgDef xs)[i]?).getD [])[4]?.getD .z) = ((xs[i]?).getD default).2.2.2.2 := by
  rw [dFieldDefs, List.getElem?_map]; cases xs[i]? <;> rfl
abbrev TypeDef := Str × List FieldDef
instance : DecidableEq TypeDef := inferInstanceAs (DecidableEq (Str × List FieldDef))
def dTypeDef (iFieldDef : TypeId) (iArgDef : TypeId) (x : TypeDef) : List D := [.str x.1, .list iFieldDef (dFieldDefs iArgDef x.2)]
def dTypeDefs (iFieldDef : TypeId) (iArgDef : TypeId) (xs : List TypeDef) : List (List D) := xs.map (dTypeDef iFieldDef iArgDef)
@[simp] theorem dTypeDefs_len (iFieldDef : TypeId) (iArgDef : TypeId) (xs : List TypeDef) : (dTypeDefs iFieldDef iArgDef xs).length = xs.length := by simp [dTypeDefs]
theorem dTypeDefs_set (iFieldDef : TypeId) (iArgDef : TypeId) (xs : List TypeDef) (i : Nat) (q : TypeDef) : dTypeDefs iFieldDef iArgDef (xs.set i q) = (dTypeDefs iFieldDef iArgDef xs).set i (dTypeDef iFieldDef iArgDef q) := by simp [dTypeDefs, List.map_set]
theorem dTypeDefs_0 (iFieldDef : TypeId) (iArgDef : TypeId) (xs : List TypeDef) (i : Nat) : getS ((((dTypeDefs iFieldDef iArgDef xs)[i]?).getD [])[0]?.getD .z) = ((xs[i]?).getD default).1 := by
  rw [dTypeDefs, List.getElem?_map]; cases xs[i]? <;> rfl
theorem dTypeDefs_1 (iFieldDef : TypeId) (iArgDef : TypeId) (xs : List TypeDef) (i : Nat) : getL ((((dTypeDefs iFieldDef iArgDef xs)[i]?).getD [])[1]?.getD .z) = dFieldDefs iArgDef ((xs[i]?).getD default).2 := by
  rw [dTypeDefs, List.getElem?_map]; cases xs[i]? <;> rfl
abbrev Schema := List TypeDef
instance : DecidableEq Schema := inferInstanceAs (DecidableEq (List TypeDef))
def dSchema (iTypeDef : TypeId) (iFieldDef : TypeId) (iArgDef : TypeId) (x : Schema) : List D := [.list iTypeDef (dTypeDefs iFieldDef iArgDef x)]
def dSchemas (iTypeDef : TypeId) (iFieldDef : TypeId) (iArgDef : TypeId) (xs : List Schema) : List (List D) := xs.map (dSchema iTypeDef iFieldDef iArgDef)
@[simp] theorem dSchemas_len (iTypeDef : TypeId) (iFieldDef : TypeId) (iArgDef : TypeId) (xs : List Schema) : (dSchemas iTypeDef iFieldDef iArgDef xs).length = xs.length := by simp [dSchemas]
theorem dSchemas_set (iTypeDef : TypeId) (iFieldDef : TypeId) (iArgDef : TypeId) (xs : List Schema) (i : Nat) (q : Schema) : dSchemas iTypeDef iFieldDef iArgDef (xs.set i q) = (dSchemas iTypeDef iFieldDef iArgDef xs).set i (dSchema iTypeDef iFieldDef iArgDef q) := by simp [dSchemas, List.map_set]
theorem dSchemas_0 (iTypeDef : TypeId) (iFieldDef : TypeId) (iArgDef : TypeId) (xs : List Schema) (i : Nat) : getL ((((dSchemas iTypeDef iFieldDef iArgDef xs)[i]?).getD [])[0]?.getD .z) = dTypeDefs iFieldDef iArgDef ((xs[i]?).getD default) := by
  rw [dSchemas, List.getElem?_map]; cases xs[i]? <;> rfl
theorem sum_take {α : Type} (f : α → Nat) {xs : List α} {i : Nat} {p : α} (h : xs[i]? = some p) : ((xs.take (i + 1)).map f).sum = ((xs.take i).map f).sum + f p := by
  rw [List.take_add_one, h]; simp
theorem sum_take_le {α : Type} (f : α → Nat) {xs : List α} {i : Nat} : ((xs.take i).map f).sum ≤ (xs.map f).sum := by
  conv => rhs; rw [← List.take_append_drop i xs]
  rw [List.map_append, List.sum_append]; omega
theorem exI {α : Type} {I : St → R} {tm tm' : List (Nat × C)} {o : α → List Ob} {os' : List Ob} (h : ∀ q, I ⟨tm, o q⟩) (e1 : tm = tm') (e : ∃ q, o q = os') : I ⟨tm', os'⟩ := by
  obtain ⟨q, e⟩ := e; rw [← e, ← e1]; exact h q
theorem drop_set1 {α : Type} {xs : List α} {i : Nat} {q : α} : (xs.set i q).drop (i + 1) = xs.drop (i + 1) := by simp [List.drop_set]
theorem drop_sum {α : Type} (m : α → Nat) (xs : List α) (i : Nat) [Inhabited α] : ∃ p, i < xs.length → xs[i]? = some p ∧ ((xs.drop i).map m).sum = m p + ((xs.drop (i + 1)).map m).sum := by
  refine ⟨(xs[i]?).getD default, fun h => ?_⟩
  rw [List.drop_eq_getElem_cons h, List.map_cons, List.sum_cons]
  exact ⟨by simp [h], by simp [h]⟩
theorem loopOf3 {α β γ : Type} {step : St → (Ex → St → R) → R} {nm : St → Option St} {K : Ex → St → R} {s : St} (mk : α → β → γ → St) (P : α → β → γ → Prop) (μ : α → β → γ → Nat) (a : α) (b : β) (c : γ) (e : s = mk a b c) (h : P a b c)
    (hs : ∀ a b c (I : St → R), P a b c → (∀ a' b' c', P a' b' c' → μ a' b' c' < μ a b c → I (mk a' b' c')) → roundP step nm (mk a b c) I K) : LoopP step nm s K :=
  loopOf (fun s : α × β × γ => mk s.1 s.2.1 s.2.2) (fun s => P s.1 s.2.1 s.2.2) (fun s => μ s.1 s.2.1 s.2.2) (a, b, c) e h fun s I hp rec => hs s.1 s.2.1 s.2.2 I hp fun a' b' c' => rec (a', b', c')
def zArgDef (x : ArgDef) : Nat := x.1.length
def zArgDefs (xs : List ArgDef) : Nat := xs.length + (xs.map zArgDef).sum
def zFieldDef (x : FieldDef) : Nat := x.1.length + zArgDefs x.2.1 + x.2.2.1.length
def zFieldDefs (xs : List FieldDef) : Nat := xs.length + (xs.map zFieldDef).sum
def zTypeDef (x : TypeDef) : Nat := x.1.length + zFieldDefs x.2
def zTypeDefs (xs : List TypeDef) : Nat := xs.length + (xs.map zTypeDef).sum
def zSchema (x : Schema) : Nat := zTypeDefs x
theorem krS {Kr : C → List Ob → R} {os : List Ob} {a b : Str} (h : Kr (.d (.str a)) os) (e : a = b) : Kr (.d (.str b)) os := by rw [← e]; exact h
theorem krO {Kr : C → List Ob → R} {c : C} {os os' : List Ob} (h : Kr c os) (e : os = os') : Kr c os' := by rw [← e]; exact h
end Go.Proofs.SL
