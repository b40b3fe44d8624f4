/- Contracts of functions of this program, by the evaluator EN; part Kz. No conditions but those that each theorem states. -/
import Derived.Test.YtekcghhacpllaaaGreatDoorEN26
import Derived.Test.YtekcghhacpllaaaGreatDoorKS
import Derived.Test.YtekcghhacpllaaaGreatDoorCards
import Derived.Test.YtekcghhacpllaaaGreatDoorTie
import Derived.ProofKit
import Derived.OpenShut
import Derived.Deep.DeepHandedRow
import Derived.Lib.LaidTab
import Derived.Stop.LaidErr
import Derived.Shelf.Vars
import Derived.Test.YtekcghhacpllaaaGreatDoorKW
set_option linter.unusedVariables false
set_option linter.unusedSimpArgs false
set_option maxRecDepth 100000
set_option maxHeartbeats 8000000
namespace Go.Proofs.SL
open Go Go.Proofs Go.Proofs.EN Go.Proofs.VT Go.ChangeShapes Go.WideShapes Go.ChangeAt Go.RowKit
/-- What was read before reads behind the call as it did. -/
theorem post_below {H : Type} {enc : TypeId × Value → H} {P : Program} {f : Func} {s : ChangeSpec} {apart fresh handsOn again : Bool} {W W' : World} {args : Array Value} {v : Value} {ds gs : List (DataW H)} {before pa pv : List MemPlace}
    (hW : DataW.Whole enc P f.params.toList s.vars apart W args.toList ds gs before)
    (hres : ∀ (b : Nat) (sp : Nat → Bool) (hd : Bool), DataW.TrodAll enc P W' b sp hd f.resultTypes.toList (v.resultList f.resultTypes.size) (s.fn H (ds ++ gs)).results [])
    (hargs : ∀ sp : Nat → Bool, (∀ p ∈ before, sp p.block = true) → DataW.TrodAll enc P W' 0 sp true f.params.toList args.toList (s.fn H (ds ++ gs)).args pa)
    (hvars : ∀ sp : Nat → Bool, (∀ p ∈ before, sp p.block = true) → DataW.TrodVars enc P W' sp s.vars (s.fn H (ds ++ gs)).vars pv)
    (hps : before = pa ++ pv) (hb : Below W.heap.size W W')
    (hok : ∀ (j : Nat) (t : TypeId) (r : Value), f.resultTypes[j]? = some t → (v.resultList f.resultTypes.size)[j]? = some r → Value.okWide P W' .any 0 t r) :
    s.post enc P f apart fresh handsOn again W args v W' := by
  have hold : ∀ p ∈ before, (fun b => decide (b < W.heap.size)) p.block = true := fun p hp => by simpa using hW.lt p hp
  have hlt : ∀ p ∈ before, p.block < W.heap.size := fun p hp => hW.lt p hp
  refine ⟨ds, gs, before, [], pa, pv, hW, hres _ _ _, hargs _ hold, hvars _ hold, World.keptBut_mono (fun p hp => ⟨hp, ?_⟩) (hb.frame (· ∈ before)), fun _ => ?_⟩
  · rw [hps, List.mem_append] at hp
    exact Or.inr hp
  · obtain ⟨_, _, _, _, _, hz, hn⟩ := hW
    refine ⟨hok, _, _, ([] ++ pa) ++ pv, ⟨[] ++ pa, pv, trodAll_append (hargs _ (fun _ _ => rfl)) (hres _ _ _), hvars _ (fun _ _ => rfl), rfl, ?_, ?_⟩, ?_⟩
    · intro b off hp
      have hp' : MemPlace.cell b off ∈ before := by rw [hps]; simpa using hp
      rw [hb.frozen (p := ⟨b, off, none⟩) (hlt _ hp')]
      exact hz b off hp'
    · intro ha
      have := hn ha
      rw [hps] at this
      simpa using this
    · intro p hp _
      rw [hps]
      simpa using hp
/-- A call that comes to true. -/
theorem calls_true {T : Tabs} {P : Program} {t : TypeId → Option TI} {f : FuncId} {args : List C} {vs : List Value} {W : World} (hp : Wp T P t f args [] (fun x _ => x = .d (.bool true)) (fun _ _ => False)) (hTab : T.ok W) (hgs : ∀ b, T.gs b → b < W.heap.size) (hl : vs.length = args.length)
    (hv : ∀ i, i < args.length → RepC t W (fun b => b < W.heap.size) g0 [] (vs.getD i Go.undef) (args.getD i .undef)) : Calls P f vs.toArray W fun e W' => e = .returned (.bool true) ∧ Below W.heap.size W W' := by
  have hI : Inv t ⟨T, fun b => b < W.heap.size, fun _ => False, W, []⟩ W g0 [] :=
    ⟨rfl, fun o ob v h => by simp at h, fun o o' b h => by simp at h, fun o b h => by simp at h, .refl _ _, fun b hb => ⟨hb, fun h => h⟩, hTab, hgs⟩
  refine (hp.calls ⟨T, fun b => b < W.heap.size, fun _ => False, W, []⟩ g0 vs rfl hI hl fun i hi => (hv i hi).mono (fun b hb => ⟨.inl hb, rfl⟩) (.refl _ _)).mono ?_
  rintro e W' ⟨v, x, g', os', hI', _, hr, ⟨rfl, rfl⟩ | ⟨_, h⟩⟩
  · refine ⟨?_, ⟨hI'.kept.os, hI'.kept.tape, hI'.kept.output, hI'.kept.size, fun b hb => hI'.kept.block b hb fun h => h⟩⟩
    cases hr with
    | d _ _ h => cases h; rfl
  · exact h.elim
theorem wf_u8 {n : Int} (h : (Lit.int .u8 n).wf = true) : 0 ≤ n ∧ n < 256 := by
  simp [Lit.wf, IntKind.min, IntKind.max, IntKind.bits, IntKind.signed] at h
  omega
theorem bytes_open {H : Type} {enc : TypeId × Value → H} {sp : Nat → Bool} {held : Bool} {Sm : DataW H → Prop} (hS : Smalls Sm) {W : World} {fuel : Nat} {a : Option Addr} {len cap : Nat} {x : DataW H × List MemPlace}
    (hl : locAll tt [22, 5] = true) (h : DataW.trod enc Tryz.prog W 0 sp held fuel 22 [.slice a len cap] = some x) (hs : Sm x.1) :
    ∃ t : Str, Rep tt W (fun b => b < W.heap.size) (.slice a len cap) (.list 5 (dBy t)) := by
  have hR := repT_of_trod hS ttok hl fuel 22 _ _ _ (by decide) (show tt 22 = some ⟨.slice 5, [.list 5], 24⟩ by rfl) h hs
  obtain ⟨ds, hf, hln, hr⟩ := hR
  match ds, hf with
  | [d0], ⟨⟨xs, h0⟩, _⟩ =>
    subst h0
    have r0 : Rep tt W (fun b => b < W.heap.size) (.slice a len cap) (.list 5 xs) := hr 0 (by simp)
    refine ⟨xs.map fun x => UInt8.ofNat (getI (x.getD 0 .z)).toNat, ?_⟩
    suffices e : dBy (xs.map fun x => UInt8.ofNat (getI (x.getD 0 .z)).toNat) = xs by rw [e]; exact r0
    cases r0 with
    | nil => rfl
    | list _ ti _ _ _ b off vs ht hd hk hcap hb hfit ha hc hrr =>
      obtain rfl : (⟨.int .u8, [.int .u8], 1⟩ : TI) = ti := Option.some.inj ((show tt 5 = some _ by rfl).symm.trans ht)
      have key : ∀ i, i < xs.length → ∃ n : Int, xs.getD i [] = [.int .u8 n] ∧ 0 ≤ n ∧ n < 256 := fun i hi => by
        have h1 := hfit i hi
        have h2 := hrr i 0 hi (by simp)
        have h3 := hc i 0 hi (by simp)
        obtain ⟨rfl, _⟩ := ha (by omega)
        generalize xs.getD i [] = y at h1 h2
        match y, h1 with
        | [d], ⟨⟨n, hn⟩, _⟩ =>
          subst hn
          have h2 : Rep tt W (fun b => b < W.heap.size) (vs i 0) (.int .u8 n) := h2
          have hv : vs i 0 = .int .u8 n := h2.int_inv
          rw [hv] at h3
          refine ⟨n, rfl, ?_⟩
          rcases Go.ChangeShapes.open_ints Tryz.underlying22 Tryz.underlying5 (by kernel_rfl) h with ⟨hcs, _⟩ | ⟨a2, len2, cap2, zs, hcs, _, hle, _, hzl, _, hcell, hwf⟩
          · simp at hcs
          · simp only [List.cons.injEq, Value.slice.injEq, Option.some.injEq, and_true] at hcs
            obtain ⟨rfl, rfl, rfl⟩ := hcs
            have hiz : i < zs.length := by rw [hzl]; split <;> omega
            have h4 := hcell i hiz
            have e2 : (⟨b, off, none⟩ : Addr).add i = ⟨b, off + (i * 1 + 0), none⟩ := by simp [Addr.add_lit]
            rw [e2] at h4
            have h3 : W.cell? ⟨b, off + (i * 1 + 0), none⟩ = some (.int .u8 n) := h3
            rw [h3] at h4
            have h5 : n = zs.getD i 0 := by simpa using h4
            have h6 : zs.getD i 0 ∈ zs := by rw [List.getD_eq_getElem?_getD, List.getElem?_eq_getElem hiz]; exact List.getElem_mem hiz
            rw [h5]
            exact wf_u8 (hwf _ h6)
      refine List.ext_getElem (by simp) fun i h1 h2 => ?_
      obtain ⟨n, hn, h3, h4⟩ := key i h2
      have e : xs[i] = [.int .u8 n] := by rw [← hn]; simp [h2]
      simp only [dBy, List.getElem_map, e]
      simp only [List.getD_cons_zero, getI]
      rw [UInt8.toNat_ofNat', Nat.mod_eq_of_lt (by omega)]
      congr 2
      omega
end Go.Proofs.SL
namespace Go.Proofs.YtekcghhacpllaaaGreatDoor.schema
open Go Go.ChangeShapes Go.WideShapes Go.ChangeAt Go.RowKit Go.Proofs.EN Go.Proofs.VT Go.Proofs.SL
theorem own : ownKnob Tryz.prog.godebug = none := by kernel_rfl
theorem laidOut : laidOutB Tryz.prog = true := by kernel_rfl
theorem bulk_all {H : Type} : ∀ es : List (DataW H), es.length ≤ Rows.uptoBulkAll es ∧ ∀ e ∈ es, Rows.uptoBulk e ≤ Rows.uptoBulkAll es := by
  intro es
  induction es with
  | nil => exact ⟨Nat.le_refl _, fun e h => by cases h⟩
  | cons d r ih =>
    have h1 : 1 ≤ Rows.uptoBulk d := by
      cases d with
      | lit l => cases l <;> simp [Rows.uptoBulk]
      | _ => simp only [Rows.uptoBulk]; omega
    simp only [Rows.uptoBulkAll, List.length_cons]
    refine ⟨by omega, fun e he => ?_⟩
    rcases List.mem_cons.1 he with rfl | he
    · omega
    · have := ih.2 e he; omega
theorem smalls {H : Type} : Smalls (fun d : DataW H => Rows.uptoBulk d ≤ 1048576) :=
  ⟨fun b h => by simp only [Rows.uptoBulk] at h; simp only [big]; omega,
   fun es sp h => by
    simp only [Rows.uptoBulk] at h
    obtain ⟨h1, h2⟩ := bulk_all es
    exact ⟨by simp only [big]; omega, fun e he => by have := h2 e he; omega⟩,
   fun ps h p hp => by
    simp only [Rows.uptoBulk] at h
    have := (bulk_all ps).2 p hp
    omega⟩
theorem loc : locAll tt [22, 5] = true := by kernel_rfl
/-- Of no table is anything asked. -/
def tabs0 : Tabs := ⟨fun _ => False, fun _ => True, fun _ _ _ _ => trivial⟩
end Go.Proofs.YtekcghhacpllaaaGreatDoor.schema
set_option linter.unusedVariables false
set_option linter.unusedSimpArgs false
set_option maxRecDepth 100000
set_option maxHeartbeats 8000000
namespace Go.Proofs.YtekcghhacpllaaaGreatDoor.schema
open Go Go.ChangeShapes Go.WideShapes Go.ChangeAt Go.RowKit Go.Proofs.EN Go.Proofs.VT Go.Proofs.SL
theorem contract (H : Type) (enc : TypeId × Value → H) (W : World) (base : Nat) (args : Array Value) (ds gs : List (DataW H)) (before : List MemPlace)
    (hval : ∀ (j : Nat) t v, Tryz.f3.params[j]? = some t → args[j]? = some v → Value.okWide Tryz.prog W .any base t v)
    (hW : DataW.Whole enc Tryz.prog Tryz.f3.params.toList Rows.fnSchemaSpec.vars false W args.toList ds gs before) (hsm : Rows.uptoSmall H (ds ++ gs) = true) :
    Calls Tryz.prog 3 args W fun e W' => ∃ v, e = .returned v ∧ Rows.fnSchemaSpec.post enc Tryz.prog Tryz.f3 false true false false W args v W' := by
  have hW' := hW
  obtain ⟨p, q, hA0, hV, rfl, hfz, hnd⟩ := hW
  have hA : DataW.TrodAll enc Tryz.prog W 0 (fun _ => true) true Tryz.f3.params.toList args.toList ds p := hA0
  rw [Tryz.params3] at hA hval
  obtain ⟨v0, vs0, d0, ds0, p0, q0, hargs, rfl, rfl, h0, r0⟩ := trodAll_cons hA
  obtain ⟨v1, vs1, d1, ds1, p1, q1, hargs1, rfl, rfl, h1, r1⟩ := trodAll_cons r0
  obtain ⟨rfl, rfl, rfl⟩ := trodAll_nil r1
  subst hargs1
  obtain rfl : args = #[v0, v1] := by cases args; simp_all
  obtain ⟨rfl, rfl⟩ := trodVars_none hV
  have h0k := h0
  have h1k := h1
  clear hA0
  simp only [List.append_nil] at hW' hsm
  have hss : Rows.uptoBulk d0 ≤ 1048576 ∧ Rows.uptoBulk d1 ≤ 1048576 := by
    have h9 : Rows.uptoBulkAll [d0, d1] ≤ 1048576 := of_decide_eq_true hsm
    simp only [Rows.uptoBulkAll] at h9
    omega
  obtain ⟨a0, len0, cap0, rfl⟩ : ∃ a len cap, v0 = .slice a len cap := by
    have := Go.WideShapes.okWide_slice Tryz.underlying22 (hval 0 22 v0 rfl rfl)
    first | exact this | (obtain ⟨a, l, c, h, _⟩ := this; exact ⟨a, l, c, h⟩)
  obtain ⟨a1, len1, cap1, rfl⟩ : ∃ a len cap, v1 = .slice a len cap := by
    have := Go.WideShapes.okWide_slice Tryz.underlying22 (hval 1 22 v1 rfl rfl)
    first | exact this | (obtain ⟨a, l, c, h, _⟩ := this; exact ⟨a, l, c, h⟩)
  obtain ⟨fuel0, h0⟩ := h0
  obtain ⟨fuel1, h1⟩ := h1
  obtain ⟨t0, ht0⟩ := bytes_open smalls loc h0 hss.1
  obtain ⟨t1, ht1⟩ := bytes_open smalls loc h1 hss.2
  have key := calls_true (W := W) (vs := [.slice a0 len0 cap0, .slice a1 len1 cap1]) (w3 (T := tabs0) (code := t0) (more := t1) rfl) trivial (fun _ h => h.elim) rfl (fun i hi => by
    match i, hi with
    | 0, _ => exact .d _ _ ht0
    | 1, _ => exact .d _ _ ht1)
  refine key.mono fun e W' ⟨he, hB⟩ => ?_
  subst he
  have hlt : ∀ x ∈ p0 ++ p1, x.block < W.heap.size := fun x hx => by simpa using hW'.lt x (by simpa using hx)
  have harg0 : ∀ sp : Nat → Bool, (∀ p ∈ p0, sp p.block = true) → DataW.Trod enc Tryz.prog W' 0 sp true 22 (.slice a0 len0 cap0) d0 p0 := fun sp hsp =>
    Go.WideElems.Trod_stays laidOut (by kernel_rfl) (of_decide_eq_true (by kernel_rfl)) h0k (fun x hx => hB.same (hlt x (List.mem_append_left _ hx))) hsp
  have harg1 : ∀ sp : Nat → Bool, (∀ p ∈ p1, sp p.block = true) → DataW.Trod enc Tryz.prog W' 0 sp true 22 (.slice a1 len1 cap1) d1 p1 := fun sp hsp =>
    Go.WideElems.Trod_stays laidOut (by kernel_rfl) (of_decide_eq_true (by kernel_rfl)) h1k (fun x hx => hB.same (hlt x (List.mem_append_right _ hx))) hsp
  refine ⟨_, rfl, post_below (pa := p0 ++ (p1 ++ [])) (pv := []) hW' (fun _ _ _ => trodAll_cons_mk (shut_bool Tryz.underlying4 _) trodAll_mk0) (fun sp hsp => trodAll_cons_mk (harg0 sp fun p hp => hsp p (by simp [hp])) (trodAll_cons_mk (harg1 sp fun p hp => hsp p (by simp [hp])) trodAll_mk0)) (fun _ _ => rfl) (by simp) hB
    (ok_one (by kernel_rfl) rfl (okWide_bool_mk Tryz.underlying4 _))⟩
end Go.Proofs.YtekcghhacpllaaaGreatDoor.schema
set_option linter.unusedVariables false
set_option linter.unusedSimpArgs false
set_option maxRecDepth 100000
set_option maxHeartbeats 8000000
namespace Go.Proofs.YtekcghhacpllaaaGreatDoor.schema
open Go Go.ChangeShapes Go.WideShapes Go.ChangeAt Go.RowKit Go.Proofs.EN Go.Proofs.VT Go.Proofs.SL
/-- A listed table's cells. -/
def cellsOfTab : DataW Unit → List Value
  | .agg ps => ps.flatMap fun p => match p with
    | .lit (.int k n) => [Value.int k n]
    | .agg qs => qs.map fun q => match q with
      | .lit (.int k n) => Value.int k n
      | _ => Go.undef
    | _ => [Go.undef]
  | _ => []
def putTab (d : DataW Unit) : Obj → Obj
  | .cells _ t frozen => .cells (cellsOfTab d).toArray t frozen
  | o => o
noncomputable def low : Nat := (World.holding Tryz.prog default ⟨#[], #[], []⟩).heap.size
def putErr (n : Nat) : Obj → Obj
  | .cells _ t frozen => .cells #[.iface 268 (.pointer (some ⟨n, 0, none⟩))] t frozen
  | o => o
def textOf : DataW Unit → ByteArray
  | .iface _ (.ptr (.agg [.lit (.string l)])) => ⟨l.toArray⟩
  | _ => ⟨#[]⟩
/-- A world for the witness: the tables hold what their initialisers lay. -/
noncomputable def laidWorld (os : Os) : World :=
  let w0 := World.holding Tryz.prog os ⟨#[.cells #[.string (textOf Rows.laid_strconv_ErrSyntax)] 270, .cells #[.string (textOf Rows.laid_strconv_ErrRange)] 270], #[], []⟩
  { w0 with heap := ((((w0.heap.modify 1 (putTab Rows.laid_internal_strconv_uint64pow10)).modify 6 (putTab Rows.laid_math_bits_deBruijn32tab)).modify 7 (putTab Rows.laid_math_bits_deBruijn64tab)).modify 2 (putErr low)).modify 3 (putErr (low + 1)) }
def wArgs : Array Value := #[.slice none 0 0, .slice none 0 0]
set_option maxRecDepth 1000000 in
theorem laid_met (os : Os) : laidMet Tryz.prog Rows.fnSchemaUptoRow.laid ((laidWorld os).forCall (fun _ _ => 0) ⟨#[], wArgs, []⟩).memory :=
  laidMet_of_run' 8 (by kernel_rfl) (by kernel_rfl)
theorem reads (os : Os) {H : Type} (enc : TypeId × Value → H) : ∃ places, DataW.whole enc Tryz.prog ((laidWorld os).forCall (fun _ _ => 0) ⟨#[], wArgs, []⟩).memory Tryz.f3.params.toList Rows.fnSchemaSpec.vars false wArgs.toList 8 = some ([.nil, .nil], [], places) :=
  ⟨[], by kernel_rfl⟩
set_option maxRecDepth 100000 in
theorem liftedUpto (os : Os) (started : os.Started) (H : Type) (enc : TypeId × Value → H) (F : Stop.Interp) :
    ReturnsInHanded {} Tryz.checked os 3 .any ((Rows.OpenSpec.upto Rows.fnSchemaSpec).preRow enc Tryz.prog Tryz.f3 Rows.fnSchemaUptoRow.domain false Rows.fnSchemaUptoRow.laid) (((Rows.OpenSpec.upto Rows.fnSchemaSpec).at F).post enc Tryz.prog Tryz.f3 false true false false) := by
  obtain ⟨places, hx⟩ := reads os enc
  refine returnsInHanded_of_row (C := Tryz.checked) (s := Rows.OpenSpec.upto Rows.fnSchemaSpec) own started (by kernel_rfl) Tryz.func3
    (witness_row_at (enc := enc) (C := Tryz.checked) false (laidWorld os) wArgs rfl (by kernel_rfl) (by kernel_rfl) (by kernel_rfl)
      (OpenSpec.preRow_of_cond 8 hx (by kernel_rfl) (fun k hk => by cases hk; kernel_rfl) (by kernel_rfl) (laid_met os))) ?_
  intro W base args ds gs before hval hW _ hcond _ _ _ _
  exact contract H enc W base args ds gs before hval hW (hcond _ rfl)
theorem saidUpto : Rows.FnSchemaUptoSaid :=
  OpenClaim.holds_of_cond 3 Tryz.f3 rfl rfl rfl rfl rfl rfl rfl ⟨rfl, rfl, rfl, rfl, rfl⟩ rfl rfl rfl rfl rfl (by kernel_rfl) Tryz.func3 (by kernel_rfl)
    (of_decide_eq_true (by kernel_rfl)) (by unfold Func.isWrapper; first | (rw [if_pos (by decide +kernel)]; kernel_rfl) | (rw [if_neg (by decide +kernel)]; exact ⟨rfl, rfl⟩))
    (fun os started H enc _ F => by rw [OpenClaim.pre_eq_preRow]; exact liftedUpto os started H enc F)
theorem plain (f : FuncId) (fn : Func) (hf : Tryz.pinned.checked.prog.funcNamed "loop.example/g00540/laws.FnSchema" = some f) (hfn : Tryz.pinned.checked.prog.funcs[f]? = some fn) :
    true = Tryz.pinned.checked.prog.looks [] ∧ ∀ (j : Nat) t, fn.params[j]? = some t → Tryz.pinned.checked.prog.wantsStandIn t = false := by
  obtain rfl : f = 3 := Option.some.inj ((show Tryz.prog.funcNamed "loop.example/g00540/laws.FnSchema" = some 3 by kernel_rfl).symm.trans hf) |>.symm
  obtain rfl : fn = Tryz.f3 := (Option.some.inj (Tryz.func3.symm.trans hfn)).symm
  refine ⟨by kernel_rfl, fun j t ht => ?_⟩
  rw [Tryz.params3] at ht
  obtain rfl : t = 22 := by simpa using Array.mem_of_getElem? ht
  exact (show Tryz.prog.wantsStandIn 22 = false by kernel_rfl)
theorem cardUpto : Rows.FnSchemaUptoCardSaid :=
  Claim7.holds_tied_plain_at .later [] _ _ _ _ saidUpto (fun _ h => by cases h) (by kernel_rfl) (fun _ h => by cases h) fnSchemaUpto_row_tie rfl ⟨rfl, rfl⟩ (by kernel_rfl) rfl plain (by kernel_rfl)
end Go.Proofs.YtekcghhacpllaaaGreatDoor.schema
