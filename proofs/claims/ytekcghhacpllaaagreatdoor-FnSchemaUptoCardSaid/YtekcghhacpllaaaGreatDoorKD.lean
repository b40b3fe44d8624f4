/- Contracts of functions of this program, by the evaluator EN; part KD. No conditions but those that each theorem states. -/
import Derived.Test.YtekcghhacpllaaaGreatDoorKP
set_option linter.unusedVariables false
set_option linter.unusedSimpArgs false
set_option maxRecDepth 100000
set_option maxHeartbeats 8000000
namespace Go.Proofs.SL
open Go Go.Proofs Go.Proofs.EN Go.Proofs.VT
/-! ### Schemas that are drawn -/
abbrev qF : List FieldDef := [([110, 111, 100, 101], [([105, 100], true)], [78, 111, 100, 101], false, false),
  ([109, 117, 115, 116], [([105, 100], true)], [78, 111, 100, 101], false, true),
  ([110, 111, 100, 101, 115], [], [78, 111, 100, 101], true, false),
  ([115, 105, 122, 101], [], [73, 110, 116], false, true)]
abbrev mF : List FieldDef := [([115, 101, 116], [([105, 100], true), ([118, 97, 108, 117, 101], true)], [78, 111, 100, 101], false, false),
  ([97, 100, 100], [([105, 100], true), ([98, 121], true)], [78, 111, 100, 101], false, false),
  ([108, 105, 110, 107], [([105, 100], true), ([116, 111], false)], [78, 111, 100, 101], false, false)]
abbrev nF : List FieldDef := [([105, 100], [], [73, 110, 116], false, true),
  ([118, 97, 108, 117, 101], [], [73, 110, 116], false, false),
  ([112, 108, 117, 115], [([98, 121], true)], [73, 110, 116], false, false),
  ([110, 101, 120, 116], [], [78, 111, 100, 101], false, false),
  ([110, 101, 101, 100], [], [78, 111, 100, 101], false, true)]
abbrev eF : List FieldDef := [([110], [], [73, 110, 116], false, false)]
abbrev tQu : Str := [81, 117, 101, 114, 121]
abbrev tMu : Str := [77, 117, 116, 97, 116, 105, 111, 110]
abbrev tNo : Str := [78, 111, 100, 101]
abbrev tEx : Str := [69, 120, 116, 114, 97]
def plainS : List TypeDef := [(tQu, qF), (tMu, mF), (tNo, nF)]
/-- One field more; one type more. -/
def moreF (o : Option FieldDef) : List FieldDef := match o with | some f => nF ++ [f] | none => nF
def drawnS (o : Option FieldDef) (e : Bool) : List TypeDef := [(tQu, qF), (tMu, mF), (tNo, moreF o)] ++ (if e then [(tEx, eF)] else [])
def namesL : List Str := [[97, 108, 108], [98, 97, 99, 107]]
def typesL : List Str := [[73, 110, 116], [78, 111, 100, 101], [81, 117, 101, 114, 121]]
def bools : List Bool := [true, false]
def optF : List (Option FieldDef) := none :: namesL.flatMap fun n => typesL.flatMap fun t => bools.flatMap fun l => bools.map fun g => some (n, [], t, l, g)
def allS : List (List TypeDef) := optF.flatMap fun o => bools.map fun e => drawnS o e
theorem mem_bools (b : Bool) : b ∈ bools := by cases b <;> decide
theorem mem_optF {n t : Str} {l g : Bool} (hn : n ∈ namesL) (ht : t ∈ typesL) : some (n, [], t, l, g) ∈ optF :=
  List.mem_cons_of_mem _ (List.mem_flatMap.2 ⟨n, hn, List.mem_flatMap.2 ⟨t, ht, List.mem_flatMap.2 ⟨l, mem_bools l, List.mem_map.2 ⟨g, mem_bools g, rfl⟩⟩⟩⟩)
theorem mem_allS {o : Option FieldDef} (h : o ∈ optF) (e : Bool) : drawnS o e ∈ allS := List.mem_flatMap.2 ⟨o, h, List.mem_map.2 ⟨e, mem_bools e, rfl⟩⟩
end Go.Proofs.SL
