/- Contracts of functions of this program, by the evaluator EN; part Sb. No conditions but those that each theorem states. -/
import Derived.Test.YtekcghhacpllaaaDoorS9
import Derived.Test.YtekcghhacpllaaaDoorEN26
import Derived.Test.YtekcghhacpllaaaDoorCards
import Derived.Test.YtekcghhacpllaaaDoorTie
import Derived.ProofKit
import Derived.OpenShut
import Derived.Deep.DeepHandedRow
import Derived.Lib.LaidTab
set_option linter.unusedVariables false
set_option linter.unusedSimpArgs false
set_option maxRecDepth 100000
set_option maxHeartbeats 8000000
namespace Go.Proofs.SL
open Go Go.Proofs Go.Proofs.EN Go.Proofs.VT Go.ChangeShapes Go.WideShapes Go.ChangeAt Go.RowKit
/-- What was read before reads behind the call as it did. -/
theorem post_below {H : Type} {enc : TypeId × Value → H} {P : Program} {f : Func} {s : ChangeSpec} {apart fresh handsOn again : Bool} {W W' : World} {args : Array Value} {v : Value} {ds gs : List (DataW H)} {before pa pv : List MemPlace}
    (hW : DataW.Whole enc P f.params.toList s.vars apart W args.toList ds gs before)
    (hres : ∀ (b : Nat) (sp : Nat → Bool) (hd : Bool), DataW.TrodAll enc P W' b sp hd f.resultTypes.toList (v.resultList f.resultTypes.size) (s.fn H (ds ++ gs)).results [])
    (hargs : ∀ sp : Nat → Bool, (∀ p ∈ before, sp p.block = true) → DataW.TrodAll enc P W' 0 sp true f.params.toList args.toList (s.fn H (ds ++ gs)).args pa)
    (hvars : ∀ sp : Nat → Bool, (∀ p ∈ before, sp p.block = true) → DataW.TrodVars enc P W' sp s.vars (s.fn H (ds ++ gs)).vars pv)
    (hps : before = pa ++ pv) (hb : Below W.heap.size W W')
    (hok : ∀ (j : Nat) (t : TypeId) (r : Value), f.resultTypes[j]? = some t → (v.resultList f.resultTypes.size)[j]? = some r → Value.okWide P W' .any 0 t r) :
    s.post enc P f apart fresh handsOn again W args v W' := by
  have hold : ∀ p ∈ before, (fun b => decide (b < W.heap.size)) p.block = true := fun p hp => by simpa using hW.lt p hp
  have hlt : ∀ p ∈ before, p.block < W.heap.size := fun p hp => hW.lt p hp
  refine ⟨ds, gs, before, [], pa, pv, hW, hres _ _ _, hargs _ hold, hvars _ hold, World.keptBut_mono (fun p hp => ⟨hp, ?_⟩) (hb.frame (· ∈ before)), fun _ => ?_⟩
  · rw [hps, List.mem_append] at hp
    exact Or.inr hp
  · obtain ⟨_, _, _, _, _, hz, hn⟩ := hW
    refine ⟨hok, _, _, ([] ++ pa) ++ pv, ⟨[] ++ pa, pv, trodAll_append (hargs _ (fun _ _ => rfl)) (hres _ _ _), hvars _ (fun _ _ => rfl), rfl, ?_, ?_⟩, ?_⟩
    · intro b off hp
      have hp' : MemPlace.cell b off ∈ before := by rw [hps]; simpa using hp
      rw [hb.frozen (p := ⟨b, off, none⟩) (hlt _ hp')]
      exact hz b off hp'
    · intro ha
      have := hn ha
      rw [hps] at this
      simpa using this
    · intro p hp _
      rw [hps]
      simpa using hp
/-- A call that comes to true. -/
theorem calls_true {T : Tabs} {P : Program} {t : TypeId → Option TI} {f : FuncId} {args : List C} {vs : List Value} {W : World} (hp : Wp T P t f args [] (fun x _ => x = .d (.bool true)) (fun _ _ => False)) (hTab : T.ok W) (hgs : ∀ b, T.gs b → b < W.heap.size) (hl : vs.length = args.length)
    (hv : ∀ i, i < args.length → RepC t W (fun b => b < W.heap.size) g0 [] (vs.getD i Go.undef) (args.getD i .undef)) : Calls P f vs.toArray W fun e W' => e = .returned (.bool true) ∧ Below W.heap.size W W' := by
  have hI : Inv t ⟨T, fun b => b < W.heap.size, fun _ => False, W⟩ W g0 [] :=
    ⟨rfl, fun o ob v h => by simp at h, fun o o' b h => by simp at h, fun o b h => by simp at h, .refl _ _, fun b hb => ⟨hb, fun h => h⟩, hTab, hgs⟩
  refine (hp.calls ⟨T, fun b => b < W.heap.size, fun _ => False, W⟩ g0 vs rfl hI hl fun i hi => (hv i hi).mono (fun b hb => ⟨.inl hb, rfl⟩) (.refl _ _)).mono ?_
  rintro e W' ⟨v, x, g', os', hI', _, hr, ⟨rfl, rfl⟩ | ⟨_, h⟩⟩
  · refine ⟨?_, ⟨hI'.kept.os, hI'.kept.tape, hI'.kept.output, hI'.kept.size, fun b hb => hI'.kept.block b hb fun h => h⟩⟩
    cases hr with
    | d _ _ h => cases h; rfl
  · exact h.elim
end Go.Proofs.SL
set_option linter.unusedVariables false
set_option linter.unusedSimpArgs false
set_option maxRecDepth 100000
set_option maxHeartbeats 8000000
namespace Go.Proofs.SL
open Go Go.Proofs Go.Proofs.EN Go.Proofs.VT
theorem vers_all : ∀ (xs : List (List D)), (∀ x ∈ xs, fitsAll [.int .i64, .int .i64] x) → ∃ vs, xs = dVs vs
  | [], _ => ⟨[], rfl⟩
  | x :: xs, h => by
    obtain ⟨vs, rfl⟩ := vers_all xs fun y hy => h y (List.mem_cons_of_mem _ hy)
    have h0 := h x (List.mem_cons_self ..)
    match x, h0 with
    | [a, b], ⟨⟨n, hn⟩, ⟨m, hm⟩, _⟩ => subst hn; subst hm; exact ⟨(n, m) :: vs, rfl⟩
theorem chains_all {w : World} {S : Nat → Prop} : ∀ (xs : List (List D)), (∀ x ∈ xs, fitsAll [.list 136] x ∧ ∃ v, Rep tt w S v (x.getD 0 .z)) → ∃ cs, xs = dCh 136 cs
  | [], _ => ⟨[], rfl⟩
  | x :: xs, h => by
    obtain ⟨cs, rfl⟩ := chains_all xs fun y hy => h y (List.mem_cons_of_mem _ hy)
    obtain ⟨h0, v, hv⟩ := h x (List.mem_cons_self ..)
    match x, h0 with
    | [a], ⟨⟨ys, hy⟩, _⟩ =>
      subst hy
      have hv : Rep tt w S v (.list 136 ys) := hv
      have : ∃ vs, ys = dVs vs := by
        cases hv with
        | nil => exact ⟨[], rfl⟩
        | list _ ti _ a cap b off vs ht hd hk hcap hb hfit ha hc hr =>
          obtain rfl : (⟨.struct [(0, 3), (1, 3)], [.int .i64, .int .i64], 16⟩ : TI) = ti := Option.some.inj ((show tt 136 = some _ by rfl).symm.trans ht)
          refine vers_all ys fun x hx => ?_
          obtain ⟨i, hi, rfl⟩ := List.getElem_of_mem hx
          have := hfit i hi
          simpa [hi] using this
      obtain ⟨vs, rfl⟩ := this
      exact ⟨vs :: cs, rfl⟩
theorem store_open {w : World} {c : List Value} (h : RepT tt w [.list 89, .int .i64] c) : ∃ v0 cs now, c = [v0, .int .i64 now] ∧ Rep tt w (fun b => b < w.heap.size) v0 (.list 89 (dCh 136 cs)) := by
  obtain ⟨ds, hf, hl, hr⟩ := h
  match ds, hf, c, hl with
  | [d0, d1], ⟨⟨xs, h0⟩, ⟨n, h1⟩, _⟩, [v0, v1], _ =>
    subst h0
    subst h1
    have r0 : Rep tt w (fun b => b < w.heap.size) v0 (.list 89 xs) := hr 0 (by simp)
    have r1 : Rep tt w (fun b => b < w.heap.size) v1 (.int .i64 n) := hr 1 (by simp)
    have e1 : v1 = .int .i64 n := by cases r1; rfl
    subst e1
    have : ∃ cs, xs = dCh 136 cs := by
      cases r0 with
      | nil => exact ⟨[], rfl⟩
      | list _ ti _ a cap b off vs ht hd hk hcap hb hfit ha hc hrr =>
        obtain rfl : (⟨.slice 136, [.list 136], 24⟩ : TI) = ti := Option.some.inj ((show tt 89 = some _ by rfl).symm.trans ht)
        refine chains_all (w := w) (S := fun b => b < w.heap.size) xs fun x hx => ?_
        obtain ⟨i, hi, rfl⟩ := List.getElem_of_mem hx
        have h1 := hfit i hi
        have h2 := hrr i 0 hi (by simp)
        have e : xs.getD i [] = xs[i] := by simp [hi]
        rw [e] at h1 h2
        exact ⟨h1, _, h2⟩
    obtain ⟨cs, rfl⟩ := this
    exact ⟨v0, cs, n, rfl, r0⟩
end Go.Proofs.SL
namespace Go.Proofs.YtekcghhacpllaaaDoor.storeLines
open Go Go.ChangeShapes Go.WideShapes Go.ChangeAt Go.RowKit Go.Proofs.EN Go.Proofs.VT Go.Proofs.SL
theorem own : ownKnob Tryd.prog.godebug = none := by kernel_rfl
theorem laidOut : laidOutB Tryd.prog = true := by kernel_rfl
theorem gTab : Tryd.prog.globalNamed "internal/strconv.uint64pow10" = some 1 := by kernel_rfl
/-- What stands in the library's table. -/
theorem tabs_same (w w' : World) (h : ∀ b, b = 1 → w'.heap[b]? = w.heap[b]?) (h1 : Lib.TabIs Tryd.prog w "internal/strconv.uint64pow10" .u64 Lib.pow10Tab) : Lib.TabIs Tryd.prog w' "internal/strconv.uint64pow10" .u64 Lib.pow10Tab := by
  unfold Lib.TabIs World.var? at h1 ⊢
  rw [gTab] at h1 ⊢
  simp only [Option.bind_some] at h1 ⊢
  rw [h 1 rfl]
  exact h1
def tabs : Tabs := ⟨fun b => b = 1, fun w => Lib.TabIs Tryd.prog w "internal/strconv.uint64pow10" .u64 Lib.pow10Tab, tabs_same⟩
theorem tabs_lt {w : World} (h : tabs.ok w) : ∀ b, tabs.gs b → b < w.heap.size := by
  rintro b rfl
  have h : Lib.TabIs Tryd.prog w "internal/strconv.uint64pow10" .u64 Lib.pow10Tab := h
  unfold Lib.TabIs World.var? at h
  rw [gTab] at h
  simp only [Option.bind_some] at h
  split at h
  · rename_i hh
    exact (Array.getElem?_eq_some_iff.1 hh).1
  · cases h
theorem bulk_all {H : Type} : ∀ es : List (DataW H), es.length ≤ Rows.uptoBulkAll es ∧ ∀ e ∈ es, Rows.uptoBulk e ≤ Rows.uptoBulkAll es := by
  intro es
  induction es with
  | nil => exact ⟨Nat.le_refl _, fun e h => by cases h⟩
  | cons d r ih =>
    have h1 : 1 ≤ Rows.uptoBulk d := by
      cases d with
      | lit l => cases l <;> simp [Rows.uptoBulk]
      | _ => simp only [Rows.uptoBulk]; omega
    simp only [Rows.uptoBulkAll, List.length_cons]
    refine ⟨by omega, fun e he => ?_⟩
    rcases List.mem_cons.1 he with rfl | he
    · omega
    · have := ih.2 e he; omega
theorem smalls {H : Type} : Smalls (fun d : DataW H => Rows.uptoBulk d ≤ 1048576) :=
  ⟨fun b h => by simp only [Rows.uptoBulk] at h; simp only [big]; omega,
   fun es sp h => by
    simp only [Rows.uptoBulk] at h
    obtain ⟨h1, h2⟩ := bulk_all es
    exact ⟨by simp only [big]; omega, fun e he => by have := h2 e he; omega⟩,
   fun ps h p hp => by
    simp only [Rows.uptoBulk] at h
    have := (bulk_all ps).2 p hp
    omega⟩
theorem loc : locAll tt [24, 22, 89, 136, 3] = true := by kernel_rfl
end Go.Proofs.YtekcghhacpllaaaDoor.storeLines
