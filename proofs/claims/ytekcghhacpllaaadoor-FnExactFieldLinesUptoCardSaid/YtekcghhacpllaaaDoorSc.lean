/- Contracts of functions of this program, by the evaluator EN; part Sc. No conditions but those that each theorem states. -/
import Derived.Test.YtekcghhacpllaaaDoorSb
import Derived.Stop.LaidErr
import Derived.OpenShut
set_option linter.unusedVariables false
set_option linter.unusedSimpArgs false
set_option maxRecDepth 100000
set_option maxHeartbeats 8000000
namespace Go.Proofs.YtekcghhacpllaaaDoor.storeLines
open Go Go.ChangeShapes Go.WideShapes Go.ChangeAt Go.RowKit Go.Proofs.EN Go.Proofs.VT Go.Proofs.SL
theorem gTabType : (Tryd.prog.globals[1]?).map (·.type) = some 195 := by kernel_rfl
theorem cells195 : Tryd.prog.cellsOf 195 = 20 := by kernel_rfl
theorem cells177 : Tryd.prog.cellsOf 177 = 1 := by kernel_rfl
theorem table {W : World} (h : laidMetH Tryd.prog Rows.fnExactStoreLinesUptoRow.laid W) : tabs.ok W := by
  have h1 : laidMet Tryd.prog Rows.fnExactStoreLinesUptoRow.laid W := h
  have h2 : laidMet Tryd.prog [("internal/strconv.uint64pow10", Lib.tabData .u64 Lib.pow10Tab)] W := h1.tail.tail
  exact Lib.tabIs_of_head gTab gTabType Tryd.underlying195 Tryd.underlying177 cells177 cells195 h2
theorem hasPow : HasPow tabs := fun w h => h
theorem contract (H : Type) (enc : TypeId × Value → H) (W : World) (base : Nat) (args : Array Value) (ds gs : List (DataW H)) (before : List MemPlace)
    (hval : ∀ (j : Nat) t v, Tryd.f3.params[j]? = some t → args[j]? = some v → Value.okWide Tryd.prog W .any base t v)
    (hW : DataW.Whole enc Tryd.prog Tryd.f3.params.toList Rows.fnExactStoreLinesSpec.vars false W args.toList ds gs before) (hsm : Rows.uptoSmall H (ds ++ gs) = true) (hL : laidMetH Tryd.prog Rows.fnExactStoreLinesUptoRow.laid W) :
    Calls Tryd.prog 3 args W fun e W' => ∃ v, e = .returned v ∧ Rows.fnExactStoreLinesSpec.post enc Tryd.prog Tryd.f3 false true false false W args v W' := by
  have hW' := hW
  obtain ⟨p, q, hA0, hV, rfl, hfz, hnd⟩ := hW
  have hA : DataW.TrodAll enc Tryd.prog W 0 (fun _ => true) true Tryd.f3.params.toList args.toList ds p := hA0
  rw [Tryd.params3] at hA hval
  obtain ⟨v0, vs0, d0, ds0, p0, q0, hargs, rfl, rfl, h0, r0⟩ := trodAll_cons hA
  obtain ⟨rfl, rfl, rfl⟩ := trodAll_nil r0
  obtain rfl : args = #[v0] := by cases args; simp_all
  obtain ⟨rfl, rfl⟩ := trodVars_none hV
  have h0k := h0
  clear hA0
  simp only [List.append_nil] at hW' hsm
  have hs0 : Rows.uptoBulk d0 ≤ 1048576 := by
    have h9 : Rows.uptoBulkAll [d0] ≤ 1048576 := of_decide_eq_true hsm
    simp only [Rows.uptoBulkAll] at h9
    omega
  have hv0 := hval 0 24 v0 rfl rfl
  obtain ⟨cv, rfl⟩ : ∃ cv, v0 = .agg cv := by
    simp only [Value.okWide, Tryd.underlying24] at hv0
    obtain ⟨cs, h, _⟩ := hv0
    exact ⟨cs, h⟩
  obtain ⟨fuel, h0⟩ := h0
  have hR := repT_of_trod smalls ttok loc fuel 24 _ _ _ (by decide) (show tt 24 = some ⟨.struct [(0, 22), (1, 3)], [.list 89, .int .i64], 32⟩ by rfl) h0 hs0
  obtain ⟨u0, cs, now, hcv, hr⟩ := store_open hR
  have hcv : cv = #[u0, .int .i64 now] := by
    have : cv.toList = [u0, .int .i64 now] := hcv
    rw [← Array.toArray_toList (xs := cv), this]
  subst hcv
  have hT := table hL
  have key := calls_true (vs := [.agg #[u0, .int .i64 now]]) (w3 (T := tabs) (cs := cs) (now := now) hasPow rfl) hT (tabs_lt hT) rfl (fun i hi => by
    obtain rfl : i = 0 := by simpa using hi
    refine .agg _ #[u0, .int .i64 now] rfl fun j hj => ?_
    match j, hj with
    | 0, _ => exact .d _ _ hr
    | 1, _ => exact .d _ _ (.int _ _))
  refine key.mono fun e W' ⟨he, hB⟩ => ?_
  subst he
  have hlt : ∀ x ∈ p0, x.block < W.heap.size := fun x hx => by simpa using hW'.lt x (by simpa using hx)
  have harg : ∀ sp : Nat → Bool, (∀ p ∈ p0, sp p.block = true) → DataW.Trod enc Tryd.prog W' 0 sp true 24 (.agg #[u0, .int .i64 now]) d0 p0 := fun sp hsp =>
    Go.WideElems.Trod_stays laidOut (by kernel_rfl) (of_decide_eq_true (by kernel_rfl)) h0k (fun x hx => hB.same (hlt x hx)) hsp
  refine ⟨_, rfl, post_below (pa := p0 ++ []) (pv := []) hW' (fun _ _ _ => trodAll_cons_mk (shut_bool Tryd.underlying4 _) trodAll_mk0) (fun sp hsp => trodAll_cons_mk (harg sp fun p hp => hsp p (by simpa using hp)) trodAll_mk0) (fun _ _ => rfl) (by simp) hB
    (ok_one (by kernel_rfl) rfl (okWide_bool_mk Tryd.underlying4 _))⟩
end Go.Proofs.YtekcghhacpllaaaDoor.storeLines
set_option linter.unusedVariables false
set_option linter.unusedSimpArgs false
set_option maxRecDepth 100000
set_option maxHeartbeats 8000000
namespace Go.Proofs.YtekcghhacpllaaaDoor.storeLines
open Go Go.ChangeShapes Go.WideShapes Go.ChangeAt Go.RowKit Go.Proofs.EN Go.Proofs.VT Go.Proofs.SL
/-- A listed table's cells. -/
def cellsOfTab : DataW Unit → Array Value
  | .agg ps => (ps.map fun p => match p with
    | .lit (.int k n) => Value.int k n
    | _ => Go.undef).toArray
  | _ => #[]
def putTab (d : DataW Unit) : Obj → Obj
  | .cells _ t frozen => .cells (cellsOfTab d) t frozen
  | o => o
/-- A world for the witness: the tables hold what their initialisers lay. -/
noncomputable def laidWorld (os : Os) : World :=
  { World.holding Tryd.prog os ⟨#[], #[], []⟩ with heap := (((World.holding Tryd.prog os ⟨#[], #[], []⟩).heap.modify 1 (putTab Rows.laid_internal_strconv_uint64pow10)).modify 6 (putTab Rows.laid_math_bits_deBruijn32tab)).modify 7 (putTab Rows.laid_math_bits_deBruijn64tab) }
def wArgs : Array Value := #[.agg #[.slice none 0 0, .int .i64 0]]
set_option maxRecDepth 1000000 in
theorem laid_met (os : Os) : laidMet Tryd.prog Rows.fnExactStoreLinesUptoRow.laid ((laidWorld os).forCall (fun _ _ => 0) ⟨#[], wArgs, []⟩).memory :=
  laidMet_of_run' 8 (by kernel_rfl) (by kernel_rfl)
theorem reads (os : Os) {H : Type} (enc : TypeId × Value → H) : ∃ places, DataW.whole enc Tryd.prog ((laidWorld os).forCall (fun _ _ => 0) ⟨#[], wArgs, []⟩).memory Tryd.f3.params.toList Rows.fnExactStoreLinesSpec.vars false wArgs.toList 8 = some ([.agg [.nil, .lit (.int .i64 0)]], [], places) :=
  ⟨[], by kernel_rfl⟩
set_option maxRecDepth 100000 in
theorem liftedUpto (os : Os) (started : os.Started) (H : Type) (enc : TypeId × Value → H) (F : Stop.Interp) :
    ReturnsInHanded {} Tryd.checked os 3 .any ((Rows.OpenSpec.upto Rows.fnExactStoreLinesSpec).preRow enc Tryd.prog Tryd.f3 Rows.fnExactStoreLinesUptoRow.domain false Rows.fnExactStoreLinesUptoRow.laid) (((Rows.OpenSpec.upto Rows.fnExactStoreLinesSpec).at F).post enc Tryd.prog Tryd.f3 false true false false) := by
  obtain ⟨places, hx⟩ := reads os enc
  refine returnsInHanded_of_row (C := Tryd.checked) (s := Rows.OpenSpec.upto Rows.fnExactStoreLinesSpec) own started (by kernel_rfl) Tryd.func3
    (witness_row_at (enc := enc) (C := Tryd.checked) false (laidWorld os) wArgs rfl (by kernel_rfl) (by kernel_rfl) (by kernel_rfl)
      (OpenSpec.preRow_of_cond 8 hx (by kernel_rfl) (fun k hk => by cases hk; kernel_rfl) (by kernel_rfl) (laid_met os))) ?_
  intro W base args ds gs before hval hW _ hcond _ hL _ _
  exact contract H enc W base args ds gs before hval hW (hcond _ rfl) hL
theorem saidUpto : Rows.FnExactStoreLinesUptoSaid :=
  OpenClaim.holds_of_cond 3 Tryd.f3 rfl rfl rfl rfl rfl rfl rfl ⟨rfl, rfl, rfl, rfl, rfl⟩ rfl rfl rfl rfl rfl (by kernel_rfl) Tryd.func3 (by kernel_rfl)
    (of_decide_eq_true (by kernel_rfl)) (by unfold Func.isWrapper; first | (rw [if_pos (by decide +kernel)]; kernel_rfl) | (rw [if_neg (by decide +kernel)]; exact ⟨rfl, rfl⟩))
    (fun os started H enc _ F => by rw [OpenClaim.pre_eq_preRow]; exact liftedUpto os started H enc F)
theorem plain (f : FuncId) (fn : Func) (hf : Tryd.pinned.checked.prog.funcNamed "loop.example/g00540/laws.FnExactStoreLines" = some f) (hfn : Tryd.pinned.checked.prog.funcs[f]? = some fn) :
    true = Tryd.pinned.checked.prog.looks [] ∧ ∀ (j : Nat) t, fn.params[j]? = some t → Tryd.pinned.checked.prog.wantsStandIn t = false := by
  obtain rfl : f = 3 := Option.some.inj ((show Tryd.prog.funcNamed "loop.example/g00540/laws.FnExactStoreLines" = some 3 by kernel_rfl).symm.trans hf) |>.symm
  obtain rfl : fn = Tryd.f3 := (Option.some.inj (Tryd.func3.symm.trans hfn)).symm
  refine ⟨by kernel_rfl, fun j t ht => ?_⟩
  rw [Tryd.params3] at ht
  obtain rfl : t = 24 := by simpa using Array.mem_of_getElem? ht
  exact (show Tryd.prog.wantsStandIn 24 = false by kernel_rfl)
theorem cardUpto : Rows.FnExactStoreLinesUptoCardSaid :=
  Claim7.holds_tied_plain_at .later [] _ _ _ _ saidUpto (fun _ h => by cases h) (by kernel_rfl) (fun _ h => by cases h) fnExactStoreLinesUpto_row_tie rfl ⟨rfl, rfl⟩ (by kernel_rfl) rfl plain (by kernel_rfl)
end Go.Proofs.YtekcghhacpllaaaDoor.storeLines
