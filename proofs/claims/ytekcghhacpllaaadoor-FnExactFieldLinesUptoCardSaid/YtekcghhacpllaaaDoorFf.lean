/- Contracts of functions of this program, by the evaluator EN; part Ff. No conditions but those that each theorem states. -/
import Derived.Test.YtekcghhacpllaaaDoorFe
import Derived.Test.YtekcghhacpllaaaDoorSb
import Derived.Test.YtekcghhacpllaaaDoorSc
import Derived.Stop.LaidErr
import Derived.OpenShut
set_option linter.unusedVariables false
set_option linter.unusedSimpArgs false
set_option maxRecDepth 100000
set_option maxHeartbeats 8000000
namespace Go.Proofs.SL
open Go Go.Proofs Go.Proofs.EN Go.Proofs.VT
theorem rows_all {w : World} {S : Nat → Prop} {t : TypeId} {ti : TI} {v : Value} {xs : List (List D)} (ht : tt t = some ti) (h : Rep tt w S v (.list t xs)) : ∀ x ∈ xs, fitsAll ti.cells x ∧ ∀ k, k < ti.cells.length → ∃ u, Rep tt w S u (x.getD k .z) := by
  cases h with
  | nil => intro x hx; cases hx
  | list _ ti' _ a cap b off vs ht' hd hk hcap hb hfit ha hc hrr =>
    obtain rfl : ti = ti' := Option.some.inj (ht.symm.trans ht')
    intro x hx
    obtain ⟨i, hi, rfl⟩ := List.getElem_of_mem hx
    have h1 := hfit i hi
    have e : xs.getD i [] = xs[i] := by simp [hi]
    rw [e] at h1
    refine ⟨h1, fun k hk => ?_⟩
    have h2 := hrr i k hi hk
    rw [e] at h2
    exact ⟨_, h2⟩
theorem args_all : ∀ (xs : List (List D)), (∀ x ∈ xs, fitsAll [.str, .bool] x) → ∃ vs, xs = dArgDefs vs
  | [], _ => ⟨[], rfl⟩
  | x :: xs, h => by
    obtain ⟨vs, rfl⟩ := args_all xs fun y hy => h y (List.mem_cons_of_mem _ hy)
    have h0 := h x (List.mem_cons_self ..)
    match x, h0 with
    | [a, b], ⟨⟨n, hn⟩, ⟨m, hm⟩, _⟩ => subst hn; subst hm; exact ⟨(n, m) :: vs, rfl⟩
theorem fields_all {w : World} {S : Nat → Prop} : ∀ (xs : List (List D)), (∀ x ∈ xs, fitsAll [.str, .list 183, .str, .bool, .bool] x ∧ ∀ k, k < 5 → ∃ u, Rep tt w S u (x.getD k .z)) → ∃ vs, xs = dFieldDefs 183 vs
  | [], _ => ⟨[], rfl⟩
  | x :: xs, h => by
    obtain ⟨vs, rfl⟩ := fields_all xs fun y hy => h y (List.mem_cons_of_mem _ hy)
    obtain ⟨h0, hr⟩ := h x (List.mem_cons_self ..)
    match x, h0, hr with
    | [a, b, c, d, e], ⟨⟨n, hn⟩, ⟨m, hm⟩, ⟨o, ho⟩, ⟨p, hp⟩, ⟨q, hq⟩, _⟩, hr =>
      subst hn; subst hm; subst ho; subst hp; subst hq
      obtain ⟨u, hu⟩ := hr 1 (by omega)
      have hu : Rep tt w S u (.list 183 m) := hu
      obtain ⟨as', rfl⟩ := args_all m fun x hx => (rows_all (show tt 183 = some _ by rfl) hu x hx).1
      exact ⟨(n, as', o, p, q) :: vs, rfl⟩
theorem types_all {w : World} {S : Nat → Prop} : ∀ (xs : List (List D)), (∀ x ∈ xs, fitsAll [.str, .list 157] x ∧ ∀ k, k < 2 → ∃ u, Rep tt w S u (x.getD k .z)) → ∃ vs, xs = dTypeDefs 157 183 vs
  | [], _ => ⟨[], rfl⟩
  | x :: xs, h => by
    obtain ⟨vs, rfl⟩ := types_all xs fun y hy => h y (List.mem_cons_of_mem _ hy)
    obtain ⟨h0, hr⟩ := h x (List.mem_cons_self ..)
    match x, h0, hr with
    | [a, b], ⟨⟨n, hn⟩, ⟨m, hm⟩, _⟩, hr =>
      subst hn; subst hm
      obtain ⟨u, hu⟩ := hr 1 (by omega)
      have hu : Rep tt w S u (.list 157 m) := hu
      obtain ⟨fs, rfl⟩ := fields_all m fun x hx => rows_all (show tt 157 = some _ by rfl) hu x hx
      exact ⟨(n, fs) :: vs, rfl⟩
theorem schema_open {w : World} {c : List Value} (h : RepT tt w [.list 106] c) : ∃ v0 ts, c = [v0] ∧ Rep tt w (fun b => b < w.heap.size) v0 (.list 106 (dTypeDefs 157 183 ts)) := by
  obtain ⟨ds, hf, hl, hr⟩ := h
  match ds, hf, c, hl with
  | [d0], ⟨⟨xs, h0⟩, _⟩, [v0], _ =>
    subst h0
    have r0 : Rep tt w (fun b => b < w.heap.size) v0 (.list 106 xs) := hr 0 (by simp)
    obtain ⟨ts, rfl⟩ := types_all xs fun x hx => rows_all (show tt 106 = some _ by rfl) r0 x hx
    exact ⟨v0, ts, rfl, r0⟩
end Go.Proofs.SL
namespace Go.Proofs.YtekcghhacpllaaaDoor.fieldLines
open Go Go.ChangeShapes Go.WideShapes Go.ChangeAt Go.RowKit Go.Proofs.EN Go.Proofs.VT Go.Proofs.SL
theorem loc : locAll tt [40, 38, 106, 104, 157, 155, 183, 9, 4] = true := by kernel_rfl
end Go.Proofs.YtekcghhacpllaaaDoor.fieldLines
set_option linter.unusedVariables false
set_option linter.unusedSimpArgs false
set_option maxRecDepth 100000
set_option maxHeartbeats 8000000
namespace Go.Proofs.YtekcghhacpllaaaDoor.fieldLines
open Go Go.ChangeShapes Go.WideShapes Go.ChangeAt Go.RowKit Go.Proofs.EN Go.Proofs.VT Go.Proofs.SL Go.Proofs.YtekcghhacpllaaaDoor
/-- Of no table is anything asked. -/
def tabs0 : Tabs := ⟨fun _ => False, fun _ => True, fun _ _ _ _ => trivial⟩
theorem contract (H : Type) (enc : TypeId × Value → H) (W : World) (base : Nat) (args : Array Value) (ds gs : List (DataW H)) (before : List MemPlace)
    (hval : ∀ (j : Nat) t v, Tryd.f4.params[j]? = some t → args[j]? = some v → Value.okWide Tryd.prog W .any base t v)
    (hW : DataW.Whole enc Tryd.prog Tryd.f4.params.toList Rows.fnExactFieldLinesSpec.vars false W args.toList ds gs before) (hsm : Rows.uptoSmall H (ds ++ gs) = true) (hL : laidMetH Tryd.prog Rows.fnExactFieldLinesUptoRow.laid W) :
    Calls Tryd.prog 4 args W fun e W' => ∃ v, e = .returned v ∧ Rows.fnExactFieldLinesSpec.post enc Tryd.prog Tryd.f4 false true false false W args v W' := by
  have hW' := hW
  obtain ⟨p, q, hA0, hV, rfl, hfz, hnd⟩ := hW
  have hA : DataW.TrodAll enc Tryd.prog W 0 (fun _ => true) true Tryd.f4.params.toList args.toList ds p := hA0
  rw [Tryd.params4] at hA hval
  obtain ⟨v0, vs0, d0, ds0, p0, q0, hargs, rfl, rfl, h0, r0⟩ := trodAll_cons hA
  obtain ⟨rfl, rfl, rfl⟩ := trodAll_nil r0
  obtain rfl : args = #[v0] := by cases args; simp_all
  obtain ⟨rfl, rfl⟩ := trodVars_none hV
  have h0k := h0
  clear hA0
  simp only [List.append_nil] at hW' hsm
  have hs0 : Rows.uptoBulk d0 ≤ 1048576 := by
    have h9 : Rows.uptoBulkAll [d0] ≤ 1048576 := of_decide_eq_true hsm
    simp only [Rows.uptoBulkAll] at h9
    omega
  have hv0 := hval 0 40 v0 rfl rfl
  obtain ⟨cv, rfl⟩ : ∃ cv, v0 = .agg cv := by
    simp only [Value.okWide, Tryd.underlying40] at hv0
    obtain ⟨cs, h, _⟩ := hv0
    exact ⟨cs, h⟩
  obtain ⟨fuel, h0⟩ := h0
  have hR := repT_of_trod storeLines.smalls ttok loc fuel 40 _ _ _ (by decide) (show tt 40 = some ⟨.struct [(0, 38)], [.list 106], 24⟩ by rfl) h0 hs0
  obtain ⟨u0, ts, hcv, hr⟩ := schema_open hR
  have hcv : cv = #[u0] := by
    have : cv.toList = [u0] := hcv
    rw [← Array.toArray_toList (xs := cv), this]
  subst hcv
  have key := calls_true (W := W) (vs := [.agg #[u0]]) (w4 (T := tabs0) (ts := ts) rfl) trivial (fun _ h => h.elim) rfl (fun i hi => by
    obtain rfl : i = 0 := by simpa using hi
    refine .agg [.d (.list 106 (dTypeDefs 157 183 ts))] #[u0] rfl fun j hj => ?_
    obtain rfl : j = 0 := by simp at hj; omega
    exact .d _ _ hr)
  refine key.mono fun e W' ⟨he, hB⟩ => ?_
  subst he
  have hlt : ∀ x ∈ p0, x.block < W.heap.size := fun x hx => by simpa using hW'.lt x (by simpa using hx)
  have harg : ∀ sp : Nat → Bool, (∀ p ∈ p0, sp p.block = true) → DataW.Trod enc Tryd.prog W' 0 sp true 40 (.agg #[u0]) d0 p0 := fun sp hsp =>
    Go.WideElems.Trod_stays storeLines.laidOut (by kernel_rfl) (of_decide_eq_true (by kernel_rfl)) h0k (fun x hx => hB.same (hlt x hx)) hsp
  refine ⟨_, rfl, post_below (pa := p0 ++ []) (pv := []) hW' (fun _ _ _ => trodAll_cons_mk (shut_bool Tryd.underlying4 _) trodAll_mk0) (fun sp hsp => trodAll_cons_mk (harg sp fun p hp => hsp p (by simpa using hp)) trodAll_mk0) (fun _ _ => rfl) (by simp) hB
    (ok_one (by kernel_rfl) rfl (okWide_bool_mk Tryd.underlying4 _))⟩
end Go.Proofs.YtekcghhacpllaaaDoor.fieldLines
set_option linter.unusedVariables false
set_option linter.unusedSimpArgs false
set_option maxRecDepth 100000
set_option maxHeartbeats 8000000
namespace Go.Proofs.YtekcghhacpllaaaDoor.fieldLines
open Go Go.ChangeShapes Go.WideShapes Go.ChangeAt Go.RowKit Go.Proofs.EN Go.Proofs.VT Go.Proofs.SL Go.Proofs.YtekcghhacpllaaaDoor
def wArgs : Array Value := #[.agg #[.slice none 0 0]]
set_option maxRecDepth 1000000 in
theorem laid_met (os : Os) : laidMet Tryd.prog Rows.fnExactFieldLinesUptoRow.laid ((storeLines.laidWorld os).forCall (fun _ _ => 0) ⟨#[], wArgs, []⟩).memory :=
  laidMet_of_run' 8 (by kernel_rfl) (by kernel_rfl)
theorem reads (os : Os) {H : Type} (enc : TypeId × Value → H) : ∃ places, DataW.whole enc Tryd.prog ((storeLines.laidWorld os).forCall (fun _ _ => 0) ⟨#[], wArgs, []⟩).memory Tryd.f4.params.toList Rows.fnExactFieldLinesSpec.vars false wArgs.toList 8 = some ([.agg [.nil]], [], places) :=
  ⟨[], by kernel_rfl⟩
set_option maxRecDepth 100000 in
theorem liftedUpto (os : Os) (started : os.Started) (H : Type) (enc : TypeId × Value → H) (F : Stop.Interp) :
    ReturnsInHanded {} Tryd.checked os 4 .any ((Rows.OpenSpec.upto Rows.fnExactFieldLinesSpec).preRow enc Tryd.prog Tryd.f4 Rows.fnExactFieldLinesUptoRow.domain false Rows.fnExactFieldLinesUptoRow.laid) (((Rows.OpenSpec.upto Rows.fnExactFieldLinesSpec).at F).post enc Tryd.prog Tryd.f4 false true false false) := by
  obtain ⟨places, hx⟩ := reads os enc
  refine returnsInHanded_of_row (C := Tryd.checked) (s := Rows.OpenSpec.upto Rows.fnExactFieldLinesSpec) storeLines.own started (by kernel_rfl) Tryd.func4
    (witness_row_at (enc := enc) (C := Tryd.checked) false (storeLines.laidWorld os) wArgs rfl (by kernel_rfl) (by kernel_rfl) (by kernel_rfl)
      (OpenSpec.preRow_of_cond 8 hx (by kernel_rfl) (fun k hk => by cases hk; kernel_rfl) (by kernel_rfl) (laid_met os))) ?_
  intro W base args ds gs before hval hW _ hcond _ hL _ _
  exact contract H enc W base args ds gs before hval hW (hcond _ rfl) hL
theorem saidUpto : Rows.FnExactFieldLinesUptoSaid :=
  OpenClaim.holds_of_cond 4 Tryd.f4 rfl rfl rfl rfl rfl rfl rfl ⟨rfl, rfl, rfl, rfl, rfl⟩ rfl rfl rfl rfl rfl (by kernel_rfl) Tryd.func4 (by kernel_rfl)
    (of_decide_eq_true (by kernel_rfl)) (by unfold Func.isWrapper; first | (rw [if_pos (by decide +kernel)]; kernel_rfl) | (rw [if_neg (by decide +kernel)]; exact ⟨rfl, rfl⟩))
    (fun os started H enc _ F => by rw [OpenClaim.pre_eq_preRow]; exact liftedUpto os started H enc F)
theorem plain (f : FuncId) (fn : Func) (hf : Tryd.pinned.checked.prog.funcNamed "loop.example/g00540/laws.FnExactFieldLines" = some f) (hfn : Tryd.pinned.checked.prog.funcs[f]? = some fn) :
    true = Tryd.pinned.checked.prog.looks [] ∧ ∀ (j : Nat) t, fn.params[j]? = some t → Tryd.pinned.checked.prog.wantsStandIn t = false := by
  obtain rfl : f = 4 := Option.some.inj ((show Tryd.prog.funcNamed "loop.example/g00540/laws.FnExactFieldLines" = some 4 by kernel_rfl).symm.trans hf) |>.symm
  obtain rfl : fn = Tryd.f4 := (Option.some.inj (Tryd.func4.symm.trans hfn)).symm
  refine ⟨by kernel_rfl, fun j t ht => ?_⟩
  rw [Tryd.params4] at ht
  obtain rfl : t = 40 := by simpa using Array.mem_of_getElem? ht
  exact (show Tryd.prog.wantsStandIn 40 = false by kernel_rfl)
theorem cardUpto : Rows.FnExactFieldLinesUptoCardSaid :=
  Claim7.holds_tied_plain_at .later [] _ _ _ _ saidUpto (fun _ h => by cases h) (by kernel_rfl) (fun _ h => by cases h) fnExactFieldLinesUpto_row_tie rfl ⟨rfl, rfl⟩ (by kernel_rfl) rfl plain (by kernel_rfl)
end Go.Proofs.YtekcghhacpllaaaDoor.fieldLines
