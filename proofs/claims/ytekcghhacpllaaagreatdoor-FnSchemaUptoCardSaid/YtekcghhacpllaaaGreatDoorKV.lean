/- Contracts of functions of this program, by the evaluator EN; part KV. No conditions but those that each theorem states. -/
import Derived.Test.YtekcghhacpllaaaGreatDoorKR
import Derived.Test.YtekcghhacpllaaaGreatDoorKT
import Derived.KernelRfl
set_option linter.unusedVariables false
set_option linter.unusedSimpArgs false
set_option maxRecDepth 100000
set_option maxHeartbeats 8000000
namespace Go.Proofs.SL
open Go Go.Proofs Go.Proofs.EN Go.Proofs.VT
/-! ### What is true of all drawn schemas -/
abbrev tNot : Str := [110, 111, 116, 104, 105, 110, 103]
def okF (f : FieldDef) : Bool := decide (f.2.1.length ≤ 4) && (decide ((fldP f).length ≤ 65536) && (decide (f.2.2.1.length ≤ 65536) && decide (f.1.length ≤ 65536)))
def okX (x : TypeDef) : Bool := decide (x.1.length ≤ 1000) && (decide ((typP x).length ≤ 65536) && (decide (x.2.length ≤ 100) && (x.2.all okF && (decide (0 < x.2.length) && decide (fnd (x.2.map (·.1)) tNot < 0)))))
def goodS (ts : List TypeDef) : Bool := schB ts && (decide ((schTok ts).length ≤ 4000) && (decide ((schT ts).length ≤ 65536) && ((schT ts).all (fun c => !decide (c.toNat = 35)) && (decide (lexO 3000 (schT ts) = some (schTok ts)) && (decide (schO 100 (schTok ts) [] = some ts) && (decide (prT ts = schT ts) && (decide (0 < ts.length ∧ ts.length ≤ 8) && (ts.all okX && decide (zTypeDefs ts ≤ 1048576)))))))))
set_option maxRecDepth 1000000 in
theorem all_good : allS.all goodS = true := by kernel_rfl
end Go.Proofs.SL
