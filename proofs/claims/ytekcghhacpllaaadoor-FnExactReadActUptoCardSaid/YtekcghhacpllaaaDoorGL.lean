/- Contracts of functions of this program, by the evaluator EN; part GL. No conditions but those that each theorem states. -/
import Derived.Test.YtekcghhacpllaaaDoorGK
set_option linter.unusedVariables false
set_option linter.unusedSimpArgs false
set_option maxRecDepth 100000
set_option maxHeartbeats 8000000
namespace Go.Proofs.YtekcghhacpllaaaDoor.readAct
open Go Go.ChangeShapes Go.WideShapes Go.ChangeAt Go.RowKit Go.Proofs.EN Go.Proofs.VT Go.Proofs.SL
theorem own : ownKnob Tryd.prog.godebug = none := by kernel_rfl
theorem laidOut : laidOutB Tryd.prog = true := by kernel_rfl
theorem gTab : Tryd.prog.globalNamed "internal/strconv.uint64pow10" = some 1 := by kernel_rfl
theorem gTabType : (Tryd.prog.globals[1]?).map (·.type) = some 195 := by kernel_rfl
theorem cellsTab : Tryd.prog.cellsOf 195 = 20 := by kernel_rfl
theorem cellsU : Tryd.prog.cellsOf 177 = 1 := by kernel_rfl
theorem cellsS : Tryd.prog.cellsOf 9 = 1 := by kernel_rfl
theorem cellsE : Tryd.prog.cellsOf 215 = 1 := by kernel_rfl
theorem gSyn : Tryd.prog.globalNamed "strconv.ErrSyntax" = some 2 := by kernel_rfl
theorem gSynT : (Tryd.prog.globals[2]?).map (·.type) = some 118 := by kernel_rfl
theorem gRan : Tryd.prog.globalNamed "strconv.ErrRange" = some 3 := by kernel_rfl
theorem gRanT : (Tryd.prog.globals[3]?).map (·.type) = some 118 := by kernel_rfl
theorem star : "*" ++ "errors.errorString" = "*errors.errorString" := by decide
theorem rowE (u : TypeId) (h : Tryd.prog.typeName? 3 u = some "*errors.errorString") : u = 213 :=
  typeName_ptr_named (nm := "errors.errorString") (by rw [star]; kernel_rfl) (by kernel_rfl) (by decide) u (by rw [star]; exact h)
/-- What stands in the library's variables. -/
structure LibOk (w : World) : Prop where
  pow : Lib.TabIs Tryd.prog w "internal/strconv.uint64pow10" .u64 Lib.pow10Tab
  max : ∃ m, w.cell? ⟨0, 0, none⟩ = some (.int .i64 m)
  err : ∀ b, b = 2 ∨ b = 3 → ∃ ev, w.cell? ⟨b, 0, none⟩ = some ev ∧ (ev = .nilIface ∨ ∃ te pe, ev = .iface te pe)
def isLib (b : Nat) : Prop := b = 1 ∨ b = 0 ∨ b = 2 ∨ b = 3
theorem lib_same (w w' : World) (h : ∀ b, isLib b → w'.heap[b]? = w.heap[b]?) (k : LibOk w) : LibOk w' := by
  obtain ⟨h1, ⟨m, h2⟩, h3⟩ := k
  refine ⟨?_, ⟨m, (cell_same (h _ (.inr (.inl rfl)))).trans h2⟩, fun b hb => ?_⟩
  · unfold Lib.TabIs World.var? at h1 ⊢
    rw [gTab] at h1 ⊢
    simp only [Option.bind_some] at h1 ⊢
    rw [h _ (.inl rfl)]
    exact h1
  · obtain ⟨ev, h4, h5⟩ := h3 b hb
    exact ⟨ev, (cell_same (h b (by rcases hb with rfl | rfl; exact .inr (.inr (.inl rfl)); exact .inr (.inr (.inr rfl))))).trans h4, h5⟩
def tabs : Tabs := ⟨isLib, LibOk, lib_same⟩
theorem tabs_lt {w : World} (h : tabs.ok w) : ∀ b, tabs.gs b → b < w.heap.size := by
  obtain ⟨h1, ⟨m, h2⟩, h3⟩ := h
  rintro b (rfl | rfl | rfl | rfl)
  · unfold Lib.TabIs World.var? at h1
    rw [gTab] at h1
    simp only [Option.bind_some] at h1
    split at h1
    · rename_i hh
      exact (Array.getElem?_eq_some_iff.1 hh).1
    · cases h1
  · exact World.block_lt_of_cell? _ _ h2
  · obtain ⟨ev, h4, _⟩ := h3 _ (.inl rfl); exact World.block_lt_of_cell? _ _ h4
  · obtain ⟨ev, h4, _⟩ := h3 _ (.inr rfl); exact World.block_lt_of_cell? _ _ h4
theorem hasPow : HasPow tabs := fun w h => h.pow
theorem hasMax : HasMax tabs := fun w h => h.max
theorem hasErr : HasErr tabs := fun w h => h.err
theorem table {W : World} (h : laidMetH Tryd.prog Rows.fnExactReadActUptoRow.laid W) (hs : W.ShapedOpen Tryd.prog) : tabs.ok W := by
  have h1 : laidMet Tryd.prog Rows.fnExactReadActUptoRow.laid W := h
  have h2 := h1.tail.tail
  have h4 := h2.tail.tail
  obtain ⟨a1, s1, hv1, _⟩ := laid_sentinel h4 gRan gRanT Tryd.underlying118 rowE Tryd.underlying213 Tryd.underlying215 rfl rfl Tryd.underlying9 cellsE cellsS
  obtain ⟨a2, s2, hv2, _⟩ := laid_sentinel h4.tail gSyn gSynT Tryd.underlying118 rowE Tryd.underlying213 Tryd.underlying215 rfl rfl Tryd.underlying9 cellsE cellsS
  refine ⟨Lib.tabIs_of_head gTab gTabType Tryd.underlying195 Tryd.underlying177 cellsU cellsTab h2, ?_, fun b hb => ?_⟩
  · exact cell_of_shapedOpen_int (t := 3) (zero := #[.int .i64 0]) hs (by decide +kernel) (by kernel_rfl) rfl (by kernel_rfl) (by kernel_rfl) Tryd.underlying3
  · rcases hb with rfl | rfl
    · exact ⟨_, by simpa using World.var?_cell gSyn hv2 0, .inr ⟨_, _, rfl⟩⟩
    · exact ⟨_, by simpa using World.var?_cell gRan hv1 0, .inr ⟨_, _, rfl⟩⟩
end Go.Proofs.YtekcghhacpllaaaDoor.readAct
