/- Contracts of functions of this program, by the evaluator EN; part GK. No conditions but those that each theorem states. -/
import Derived.Test.YtekcghhacpllaaaDoorGJ
import Derived.Test.YtekcghhacpllaaaDoorEN26
import Derived.Test.YtekcghhacpllaaaDoorCards
import Derived.Test.YtekcghhacpllaaaDoorTie
import Derived.ProofKit
import Derived.OpenShut
import Derived.Deep.DeepHandedRow
import Derived.Lib.LaidTab
import Derived.Stop.LaidErr
import Derived.Shelf.Vars
set_option linter.unusedVariables false
set_option linter.unusedSimpArgs false
set_option maxRecDepth 100000
set_option maxHeartbeats 8000000
namespace Go.Proofs.SL
open Go Go.Proofs Go.Proofs.EN Go.Proofs.VT Go.ChangeShapes Go.WideShapes Go.ChangeAt Go.RowKit
/-- What was read before reads behind the call as it did. -/
theorem post_below {H : Type} {enc : TypeId × Value → H} {P : Program} {f : Func} {s : ChangeSpec} {apart fresh handsOn again : Bool} {W W' : World} {args : Array Value} {v : Value} {ds gs : List (DataW H)} {before pa pv : List MemPlace}
    (hW : DataW.Whole enc P f.params.toList s.vars apart W args.toList ds gs before)
    (hres : ∀ (b : Nat) (sp : Nat → Bool) (hd : Bool), DataW.TrodAll enc P W' b sp hd f.resultTypes.toList (v.resultList f.resultTypes.size) (s.fn H (ds ++ gs)).results [])
    (hargs : ∀ sp : Nat → Bool, (∀ p ∈ before, sp p.block = true) → DataW.TrodAll enc P W' 0 sp true f.params.toList args.toList (s.fn H (ds ++ gs)).args pa)
    (hvars : ∀ sp : Nat → Bool, (∀ p ∈ before, sp p.block = true) → DataW.TrodVars enc P W' sp s.vars (s.fn H (ds ++ gs)).vars pv)
    (hps : before = pa ++ pv) (hb : Below W.heap.size W W')
    (hok : ∀ (j : Nat) (t : TypeId) (r : Value), f.resultTypes[j]? = some t → (v.resultList f.resultTypes.size)[j]? = some r → Value.okWide P W' .any 0 t r) :
    s.post enc P f apart fresh handsOn again W args v W' := by
  have hold : ∀ p ∈ before, (fun b => decide (b < W.heap.size)) p.block = true := fun p hp => by simpa using hW.lt p hp
  have hlt : ∀ p ∈ before, p.block < W.heap.size := fun p hp => hW.lt p hp
  refine ⟨ds, gs, before, [], pa, pv, hW, hres _ _ _, hargs _ hold, hvars _ hold, World.keptBut_mono (fun p hp => ⟨hp, ?_⟩) (hb.frame (· ∈ before)), fun _ => ?_⟩
  · rw [hps, List.mem_append] at hp
    exact Or.inr hp
  · obtain ⟨_, _, _, _, _, hz, hn⟩ := hW
    refine ⟨hok, _, _, ([] ++ pa) ++ pv, ⟨[] ++ pa, pv, trodAll_append (hargs _ (fun _ _ => rfl)) (hres _ _ _), hvars _ (fun _ _ => rfl), rfl, ?_, ?_⟩, ?_⟩
    · intro b off hp
      have hp' : MemPlace.cell b off ∈ before := by rw [hps]; simpa using hp
      rw [hb.frozen (p := ⟨b, off, none⟩) (hlt _ hp')]
      exact hz b off hp'
    · intro ha
      have := hn ha
      rw [hps] at this
      simpa using this
    · intro p hp _
      rw [hps]
      simpa using hp
/-- A call that comes to true. -/
theorem calls_true {T : Tabs} {P : Program} {t : TypeId → Option TI} {f : FuncId} {args : List C} {vs : List Value} {W : World} (hp : Wp T P t f args [] (fun x _ => x = .d (.bool true)) (fun _ _ => False)) (hTab : T.ok W) (hgs : ∀ b, T.gs b → b < W.heap.size) (hl : vs.length = args.length)
    (hv : ∀ i, i < args.length → RepC t W (fun b => b < W.heap.size) g0 [] (vs.getD i Go.undef) (args.getD i .undef)) : Calls P f vs.toArray W fun e W' => e = .returned (.bool true) ∧ Below W.heap.size W W' := by
  have hI : Inv t ⟨T, fun b => b < W.heap.size, fun _ => False, W⟩ W g0 [] :=
    ⟨rfl, fun o ob v h => by simp at h, fun o o' b h => by simp at h, fun o b h => by simp at h, .refl _ _, fun b hb => ⟨hb, fun h => h⟩, hTab, hgs⟩
  refine (hp.calls ⟨T, fun b => b < W.heap.size, fun _ => False, W⟩ g0 vs rfl hI hl fun i hi => (hv i hi).mono (fun b hb => ⟨.inl hb, rfl⟩) (.refl _ _)).mono ?_
  rintro e W' ⟨v, x, g', os', hI', _, hr, ⟨rfl, rfl⟩ | ⟨_, h⟩⟩
  · refine ⟨?_, ⟨hI'.kept.os, hI'.kept.tape, hI'.kept.output, hI'.kept.size, fun b hb => hI'.kept.block b hb fun h => h⟩⟩
    cases hr with
    | d _ _ h => cases h; rfl
  · exact h.elim
end Go.Proofs.SL
