/- Contracts of functions of this program, by the evaluator EN. No conditions but those that each theorem states. -/
import Derived.Test.YtekcghhacpllaaaGreatDoorMM
import Derived.Test.YtekcghhacpllaaaGreatDoorMH
import Derived.Test.YtekcghhacpllaaaGreatDoorSH
import Derived.Test.YtekcghhacpllaaaGreatDoorGJ
import Derived.Test.YtekcghhacpllaaaGreatDoorEN26
import Derived.Test.YtekcghhacpllaaaGreatDoorCards
import Derived.Test.YtekcghhacpllaaaGreatDoorTie
import Derived.ProofKit
import Derived.OpenShut
import Derived.Deep.DeepHandedRow
import Derived.Lib.LaidTab
import Derived.Stop.LaidErr
import Derived.Shelf.Vars
set_option linter.unusedVariables false
set_option linter.unusedSimpArgs false
set_option maxRecDepth 100000
set_option maxHeartbeats 8000000
namespace Go.Proofs.SL
open Go Go.Proofs Go.Proofs.EN Go.Proofs.VT
variable {T : Tabs}
theorem szCh_le {cs : List (List Ver)} {B : Nat} (h : ∀ c ∈ cs, c.length ≤ B) : szCh cs ≤ cs.length * B := by
  unfold szCh
  induction cs with
  | nil => simp
  | cons c r ih =>
    have h1 := h c (List.mem_cons_self ..)
    have h2 := ih fun x hx => h x (List.mem_cons_of_mem _ hx)
    simp only [List.map_cons, List.sum_cons, List.length_cons, Nat.succ_mul]
    omega
theorem stLines_len (cs : List (List Ver)) (now : Int) : 0 < (stLines cs now).length := by simp [stLines]
theorem slR_ok {cs : List (List Ver)} {now : Int} (h : stOK (cs, now) = true) : slR cs now = (stLines cs now, 0) := by simp [slR, h]
theorem actO_right {t : Str} {a : Act} (ht : t.length ≤ 65536) (h : actO (words t) = some a) : rightB a = true ∧ a.2.2.length ≤ 65536 := by
  have hj : ∀ w0 r, words t = w0 :: r → (Lib.join r [32]).length ≤ 65536 := fun w0 r hr => by have := join_words hr; omega
  generalize words t = ws at h hj
  rcases ws with _ | ⟨w0, r⟩
  · cases h
  · have h1 := hj w0 r rfl
    simp only [actO] at h
    split at h
    · cases h; exact ⟨by simp [rightB], h1⟩
    · rcases r with _ | ⟨w1, _ | ⟨w2, r⟩⟩
      · simp only at h; split at h
        · cases h; exact ⟨by simp [rightB], by simp⟩
        · cases h
      · simp only [actN] at h
        split at h
        · split at h
          · split at h
            · rename_i hn
              cases h; exact ⟨by simp [rightB, inB, hn], by simp⟩
            · cases h
          · cases h
        · split at h
          · split at h
            · split at h
              · rename_i hn
                cases h; exact ⟨by simp [rightB, inB, hn], by simp⟩
              · cases h
            · cases h
          · cases h
      · cases h
theorem raO_right {t : Str} (h : raC t = 0) : rightB ((raO t).getD (0, 0, [])) = true ∧ ((raO t).getD (0, 0, [])).2.2.length ≤ 65536 := by
  unfold raC at h
  split at h
  · rename_i ht
    split at h
    · rename_i hs
      obtain ⟨a, ha⟩ := Option.isSome_iff_exists.1 hs
      rw [raO, if_pos ht, ha]
      exact actO_right ht ha
    · cases h
  · cases h
theorem w20 {t : Str} {Kr Kp : C → List Ob → R} (ht : t.length ≤ 1048576) (h : ∀ (w : Str), w.length ≤ 13000000 → Kr (.d (.str w)) []) : Wp T Tryz.prog tt 20 [.d (.list 5 (dBy t))] [] Kr Kp := by
  refine go (k := 20) (own := true) (cap := .deep) Tryz.func20 (by kernel_rfl) ?_
  (conv => whnf); repeat' (first | ((first | refine bdec ?_ ?_ | refine bnot ?_ ?_ | refine bsel_intro ?_ ?_ | skip) <;> intro hc <;> (try simp (disch := omega) only [nm, dBy_len, dBy_0, dVs_len, dCh_len, dVs_0, dVs_1, dCh_0, dStr_len, Nat.reduceAdd, wrapI] at hc) <;> conv => whnf) | (refine .head _ rfl (by kernel_rfl) ?_; conv => whnf) | (refine w27 (fun s h1 h2 => ?_) <;> conv => whnf) | (refine w59 ⟨by omega, by omega, by omega, by omega⟩ (fun w a' s' q1 q2 => ?_) <;> conv => whnf) | (apply pcall; (focus (intro _ _ hk; first | exact w27 (fun s h1 h2 => ?_) hk | exact w59 ⟨by omega, by omega, by omega, by omega⟩ (fun w a' s' q1 q2 => ?_) hk)); conv => whnf) | (refine And.intro ?_ ?_; (focus ((first | omega | decide | (simp (disch := omega) only [nm, dBy_len, dBy_0, dVs_len, dCh_len, dVs_0, dVs_1, dCh_0, dStr_len, Nat.reduceAdd, wrapI] <;> omega) | (simp [strOf, nm, dBy_len, dBy_0, dVs_len, dCh_len, dVs_0, dVs_1, dCh_0, dStr_len, Nat.reduceAdd] <;> omega) | exact Nat.le_of_ble_eq_true rfl | rfl); done)); conv => whnf) | (rw [vv]; conv => whnf) | (refine NilP.mk fun nb hnb => ?_; conv => whnf))
  exact h w q1
theorem w26 {a : Act} {Kr Kp : C → List Ob → R} (h : Kr (.d (.bool (rightB a && decide (a.2.2.length ≤ 65536)))) []) : Wp T Tryz.prog tt 26 [cAct a] [] Kr Kp := by
  obtain ⟨k, i, s⟩ := a
  refine go (k := 26) (own := true) (cap := .deep) Tryz.func26 (by kernel_rfl) ?_
  (conv => whnf); repeat' (first | ((first | refine bdec ?_ ?_ | refine bnot ?_ ?_ | refine bsel_intro ?_ ?_ | skip) <;> intro hc <;> (try simp (disch := omega) only [nm, dBy_len, dBy_0, dVs_len, dCh_len, dVs_0, dVs_1, dCh_0, dStr_len, Nat.reduceAdd, wrapI] at hc) <;> conv => whnf) | (refine .head _ rfl (by kernel_rfl) ?_; conv => whnf) | (refine w68 ?_; conv => whnf) | (refine (fun hq => wpArgs (xs' := [.d (.list 9 (dStr [s]))]) rfl (w46 hq)) ?_; conv => whnf) | (apply pcall; (focus (intro _ _ hk; first | exact w68 hk | exact (fun hq => wpArgs (xs' := [.d (.list 9 (dStr [s]))]) rfl (w46 hq)) hk)); conv => whnf) | (refine And.intro ?_ ?_; (focus ((first | omega | decide | (simp (disch := omega) only [nm, dBy_len, dBy_0, dVs_len, dCh_len, dVs_0, dVs_1, dCh_0, dStr_len, Nat.reduceAdd, wrapI] <;> omega) | (simp [strOf, nm, dBy_len, dBy_0, dVs_len, dCh_len, dVs_0, dVs_1, dCh_0, dStr_len, Nat.reduceAdd] <;> omega) | exact Nat.le_of_ble_eq_true rfl | rfl); done)); conv => whnf) | (rw [vv]; conv => whnf) | (refine NilP.mk fun nb hnb => ?_; conv => whnf))
  · have hc : rightB (k, i, s) = true := hc
    rw [hc] at h; exact h
  · have hc : rightB (k, i, s) = false := hc
    rw [hc] at h; exact h
theorem raC_step : raC [115, 116, 101, 112, 32, 49, 32, 50] = 3 := by kernel_rfl
theorem w4 {code more : Str} {Kr Kp : C → List Ob → R} (hM : HasMax T) (hE : HasErr T) (hP : HasPow T) (h : Kr (.d (.bool true)) []) : Wp T Tryz.prog tt 4 [.d (.list 5 (dBy code)), .d (.list 5 (dBy more))] [] Kr Kp := by
  refine go (k := 4) (own := true) (cap := .deep) Tryz.func4 (by kernel_rfl) ?_
  (conv => whnf); repeat' (first | ((first | refine bdec ?_ ?_ | refine bnot ?_ ?_ | refine bsel_intro ?_ ?_ | skip) <;> intro hc <;> (try simp (disch := omega) only [nm, dBy_len, dBy_0, dVs_len, dCh_len, dVs_0, dVs_1, dCh_0, dStr_len, Nat.reduceAdd, wrapI] at hc) <;> conv => whnf) | (refine .head _ rfl (by kernel_rfl) ?_; conv => whnf) | (refine w20 (by omega) fun t ht => ?_ <;> conv => whnf) | (apply pcall; (focus (intro _ _ hk; first | exact w20 (by omega) fun t ht => ?_ hk)); conv => whnf) | (refine And.intro ?_ ?_; (focus ((first | omega | decide | (simp (disch := omega) only [nm, dBy_len, dBy_0, dVs_len, dCh_len, dVs_0, dVs_1, dCh_0, dStr_len, Nat.reduceAdd, wrapI] <;> omega) | (simp [strOf, nm, dBy_len, dBy_0, dVs_len, dCh_len, dVs_0, dVs_1, dCh_0, dStr_len, Nat.reduceAdd] <;> omega) | exact Nat.le_of_ble_eq_true rfl | rfl); done)); conv => whnf) | (rw [vv]; conv => whnf) | (refine NilP.mk fun nb hnb => ?_; conv => whnf))
  · exact h
  · exact h
  obtain ⟨a, ha⟩ : ∃ a, (raO t).getD (0, 0, []) = a := ⟨_, rfl⟩
  have hr := raO_right (t := t)
  rw [ha] at hr
  have x1 : ∀ {Kr Kp : C → List Ob → R}, Kr (.tuple [cAct a, .d (.int .i64 (raC t))]) [] → Wp T Tryz.prog tt 21 [.d (.str t)] [] Kr Kp := fun hq => w21 hM hE hP (by rw [ha]; exact hq)
  have x2 : ∀ {Kr Kp : C → List Ob → R}, Kr (.tuple [cAct a, .d (.int .i64 (raC t))]) [] → Wp T Tryz.prog tt 22 [.d (.str t)] [] Kr Kp := fun hq => w22 (by rw [ha]; exact hq)
  have x3 : ∀ {Kr Kp : C → List Ob → R}, Kr (.tuple [cAct ((raO [115, 116, 101, 112, 32, 49, 32, 50]).getD (0, 0, [])), .d (.int .i64 3)]) [] → Wp T Tryz.prog tt 21 [.d (.str [115, 116, 101, 112, 32, 49, 32, 50])] [] Kr Kp := fun hq => w21 hM hE hP (by rw [raC_step]; exact hq)
  obtain ⟨k, i, s⟩ := a
  generalize raC t = c at *
  (conv => whnf); repeat' (first | ((first | refine bdec ?_ ?_ | refine bnot ?_ ?_ | refine bsel_intro ?_ ?_ | skip) <;> intro hc <;> (try simp (disch := omega) only [nm, dBy_len, dBy_0, dVs_len, dCh_len, dVs_0, dVs_1, dCh_0, dStr_len, Nat.reduceAdd, wrapI] at hc) <;> conv => whnf) | (refine .head _ rfl (by kernel_rfl) ?_; conv => whnf) | (refine x3 ?_; conv => whnf) | (refine x1 ?_; conv => whnf) | (refine x2 ?_; conv => whnf) | (refine w23 (by omega) (fun cs now h1 h2 h3 => ?_) <;> conv => whnf) | (refine w24 hP (by have := szCh_le h3; omega) (fun ver => ?_) <;> conv => whnf) | (refine w25 (by have := szCh_le h3; omega) (fun ver => ?_) <;> conv => whnf) | (refine w17 ?_; conv => whnf) | (refine w26 ?_; conv => whnf) | (apply pcall; (focus (intro _ _ hk; first | exact x3 hk | exact x1 hk | exact x2 hk | exact w23 (by omega) (fun cs now h1 h2 h3 => ?_) hk | exact w24 hP (by have := szCh_le h3; omega) (fun ver => ?_) hk | exact w25 (by have := szCh_le h3; omega) (fun ver => ?_) hk | exact w17 hk | exact w26 hk)); conv => whnf) | (refine And.intro ?_ ?_; (focus ((first | omega | decide | (simp (disch := omega) only [nm, dBy_len, dBy_0, dVs_len, dCh_len, dVs_0, dVs_1, dCh_0, dStr_len, Nat.reduceAdd, wrapI] <;> omega) | (simp [strOf, nm, dBy_len, dBy_0, dVs_len, dCh_len, dVs_0, dVs_1, dCh_0, dStr_len, Nat.reduceAdd] <;> omega) | exact Nat.le_of_ble_eq_true rfl | rfl); done)); conv => whnf) | (rw [vv]; conv => whnf) | (refine NilP.mk fun nb hnb => ?_; conv => whnf))
  all_goals
    have e1 : (slR cs now).2 = 0 := by rw [slR_ok h1]
    have e2 : 0 < (slR cs now).1.length := by rw [slR_ok h1]; exact stLines_len cs now
    first
      | exact h
      | (exfalso; omega)
      | (exfalso; simp at hc; done)
      | (exfalso; obtain ⟨r1, r2⟩ := hr (by assumption); simp only at r2; simp_all; done)
end Go.Proofs.SL
set_option linter.unusedVariables false
set_option linter.unusedSimpArgs false
set_option maxRecDepth 100000
set_option maxHeartbeats 8000000
namespace Go.Proofs.SL
open Go Go.Proofs Go.Proofs.EN Go.Proofs.VT Go.ChangeShapes Go.WideShapes Go.ChangeAt Go.RowKit
/-- What was read before reads behind the call as it did. -/
theorem post_below {H : Type} {enc : TypeId × Value → H} {P : Program} {f : Func} {s : ChangeSpec} {apart fresh handsOn again : Bool} {W W' : World} {args : Array Value} {v : Value} {ds gs : List (DataW H)} {before pa pv : List MemPlace}
    (hW : DataW.Whole enc P f.params.toList s.vars apart W args.toList ds gs before)
    (hres : ∀ (b : Nat) (sp : Nat → Bool) (hd : Bool), DataW.TrodAll enc P W' b sp hd f.resultTypes.toList (v.resultList f.resultTypes.size) (s.fn H (ds ++ gs)).results [])
    (hargs : ∀ sp : Nat → Bool, (∀ p ∈ before, sp p.block = true) → DataW.TrodAll enc P W' 0 sp true f.params.toList args.toList (s.fn H (ds ++ gs)).args pa)
    (hvars : ∀ sp : Nat → Bool, (∀ p ∈ before, sp p.block = true) → DataW.TrodVars enc P W' sp s.vars (s.fn H (ds ++ gs)).vars pv)
    (hps : before = pa ++ pv) (hb : Below W.heap.size W W')
    (hok : ∀ (j : Nat) (t : TypeId) (r : Value), f.resultTypes[j]? = some t → (v.resultList f.resultTypes.size)[j]? = some r → Value.okWide P W' .any 0 t r) :
    s.post enc P f apart fresh handsOn again W args v W' := by
  have hold : ∀ p ∈ before, (fun b => decide (b < W.heap.size)) p.block = true := fun p hp => by simpa using hW.lt p hp
  have hlt : ∀ p ∈ before, p.block < W.heap.size := fun p hp => hW.lt p hp
  refine ⟨ds, gs, before, [], pa, pv, hW, hres _ _ _, hargs _ hold, hvars _ hold, World.keptBut_mono (fun p hp => ⟨hp, ?_⟩) (hb.frame (· ∈ before)), fun _ => ?_⟩
  · rw [hps, List.mem_append] at hp
    exact Or.inr hp
  · obtain ⟨_, _, _, _, _, hz, hn⟩ := hW
    refine ⟨hok, _, _, ([] ++ pa) ++ pv, ⟨[] ++ pa, pv, trodAll_append (hargs _ (fun _ _ => rfl)) (hres _ _ _), hvars _ (fun _ _ => rfl), rfl, ?_, ?_⟩, ?_⟩
    · intro b off hp
      have hp' : MemPlace.cell b off ∈ before := by rw [hps]; simpa using hp
      rw [hb.frozen (p := ⟨b, off, none⟩) (hlt _ hp')]
      exact hz b off hp'
    · intro ha
      have := hn ha
      rw [hps] at this
      simpa using this
    · intro p hp _
      rw [hps]
      simpa using hp
/-- A call that comes to true. -/
theorem calls_true {T : Tabs} {P : Program} {t : TypeId → Option TI} {f : FuncId} {args : List C} {vs : List Value} {W : World} (hp : Wp T P t f args [] (fun x _ => x = .d (.bool true)) (fun _ _ => False)) (hTab : T.ok W) (hgs : ∀ b, T.gs b → b < W.heap.size) (hl : vs.length = args.length)
    (hv : ∀ i, i < args.length → RepC t W (fun b => b < W.heap.size) g0 [] (vs.getD i Go.undef) (args.getD i .undef)) : Calls P f vs.toArray W fun e W' => e = .returned (.bool true) ∧ Below W.heap.size W W' := by
  have hI : Inv t ⟨T, fun b => b < W.heap.size, fun _ => False, W, []⟩ W g0 [] :=
    ⟨rfl, fun o ob v h => by simp at h, fun o o' b h => by simp at h, fun o b h => by simp at h, .refl _ _, fun b hb => ⟨hb, fun h => h⟩, hTab, hgs⟩
  refine (hp.calls ⟨T, fun b => b < W.heap.size, fun _ => False, W, []⟩ g0 vs rfl hI hl fun i hi => (hv i hi).mono (fun b hb => ⟨.inl hb, rfl⟩) (.refl _ _)).mono ?_
  rintro e W' ⟨v, x, g', os', hI', _, hr, ⟨rfl, rfl⟩ | ⟨_, h⟩⟩
  · refine ⟨?_, ⟨hI'.kept.os, hI'.kept.tape, hI'.kept.output, hI'.kept.size, fun b hb => hI'.kept.block b hb fun h => h⟩⟩
    cases hr with
    | d _ _ h => cases h; rfl
  · exact h.elim
theorem wf_u8 {n : Int} (h : (Lit.int .u8 n).wf = true) : 0 ≤ n ∧ n < 256 := by
  simp [Lit.wf, IntKind.min, IntKind.max, IntKind.bits, IntKind.signed] at h
  omega
theorem bytes_open {H : Type} {enc : TypeId × Value → H} {sp : Nat → Bool} {held : Bool} {Sm : DataW H → Prop} (hS : Smalls Sm) {W : World} {fuel : Nat} {a : Option Addr} {len cap : Nat} {x : DataW H × List MemPlace}
    (hl : locAll tt [22, 5] = true) (h : DataW.trod enc Tryz.prog W 0 sp held fuel 22 [.slice a len cap] = some x) (hs : Sm x.1) :
    ∃ t : Str, Rep tt W (fun b => b < W.heap.size) (.slice a len cap) (.list 5 (dBy t)) := by
  have hR := repT_of_trod hS ttok hl fuel 22 _ _ _ (by decide) (show tt 22 = some ⟨.slice 5, [.list 5], 24⟩ by rfl) h hs
  obtain ⟨ds, hf, hln, hr⟩ := hR
  match ds, hf with
  | [d0], ⟨⟨xs, h0⟩, _⟩ =>
    subst h0
    have r0 : Rep tt W (fun b => b < W.heap.size) (.slice a len cap) (.list 5 xs) := hr 0 (by simp)
    refine ⟨xs.map fun x => UInt8.ofNat (getI (x.getD 0 .z)).toNat, ?_⟩
    suffices e : dBy (xs.map fun x => UInt8.ofNat (getI (x.getD 0 .z)).toNat) = xs by rw [e]; exact r0
    cases r0 with
    | nil => rfl
    | list _ ti _ _ _ b off vs ht hd hk hcap hb hfit ha hc hrr =>
      obtain rfl : (⟨.int .u8, [.int .u8], 1⟩ : TI) = ti := Option.some.inj ((show tt 5 = some _ by rfl).symm.trans ht)
      have key : ∀ i, i < xs.length → ∃ n : Int, xs.getD i [] = [.int .u8 n] ∧ 0 ≤ n ∧ n < 256 := fun i hi => by
        have h1 := hfit i hi
        have h2 := hrr i 0 hi (by simp)
        have h3 := hc i 0 hi (by simp)
        obtain ⟨rfl, _⟩ := ha (by omega)
        generalize xs.getD i [] = y at h1 h2
        match y, h1 with
        | [d], ⟨⟨n, hn⟩, _⟩ =>
          subst hn
          have h2 : Rep tt W (fun b => b < W.heap.size) (vs i 0) (.int .u8 n) := h2
          have hv : vs i 0 = .int .u8 n := h2.int_inv
          rw [hv] at h3
          refine ⟨n, rfl, ?_⟩
          rcases Go.ChangeShapes.open_ints Tryz.underlying22 Tryz.underlying5 (by kernel_rfl) h with ⟨hcs, _⟩ | ⟨a2, len2, cap2, zs, hcs, _, hle, _, hzl, _, hcell, hwf⟩
          · simp at hcs
          · simp only [List.cons.injEq, Value.slice.injEq, Option.some.injEq, and_true] at hcs
            obtain ⟨rfl, rfl, rfl⟩ := hcs
            have hiz : i < zs.length := by rw [hzl]; split <;> omega
            have h4 := hcell i hiz
            have e2 : (⟨b, off, none⟩ : Addr).add i = ⟨b, off + (i * 1 + 0), none⟩ := by simp [Addr.add_lit]
            rw [e2] at h4
            have h3 : W.cell? ⟨b, off + (i * 1 + 0), none⟩ = some (.int .u8 n) := h3
            rw [h3] at h4
            have h5 : n = zs.getD i 0 := by simpa using h4
            have h6 : zs.getD i 0 ∈ zs := by rw [List.getD_eq_getElem?_getD, List.getElem?_eq_getElem hiz]; exact List.getElem_mem hiz
            rw [h5]
            exact wf_u8 (hwf _ h6)
      refine List.ext_getElem (by simp) fun i h1 h2 => ?_
      obtain ⟨n, hn, h3, h4⟩ := key i h2
      have e : xs[i] = [.int .u8 n] := by rw [← hn]; simp [h2]
      simp only [dBy, List.getElem_map, e]
      simp only [List.getD_cons_zero, getI]
      rw [UInt8.toNat_ofNat', Nat.mod_eq_of_lt (by omega)]
      congr 2
      omega
end Go.Proofs.SL
namespace Go.Proofs.YtekcghhacpllaaaGreatDoor.lines
open Go Go.ChangeShapes Go.WideShapes Go.ChangeAt Go.RowKit Go.Proofs.EN Go.Proofs.VT Go.Proofs.SL
theorem own : ownKnob Tryz.prog.godebug = none := by kernel_rfl
theorem laidOut : laidOutB Tryz.prog = true := by kernel_rfl
theorem gTab : Tryz.prog.globalNamed "internal/strconv.uint64pow10" = some 1 := by kernel_rfl
theorem gTabType : (Tryz.prog.globals[1]?).map (·.type) = some 232 := by kernel_rfl
theorem cellsTab : Tryz.prog.cellsOf 232 = 20 := by kernel_rfl
theorem cellsU : Tryz.prog.cellsOf 208 = 1 := by kernel_rfl
theorem cellsS : Tryz.prog.cellsOf 9 = 1 := by kernel_rfl
theorem cellsE : Tryz.prog.cellsOf 270 = 1 := by kernel_rfl
theorem gSyn : Tryz.prog.globalNamed "strconv.ErrSyntax" = some 2 := by kernel_rfl
theorem gSynT : (Tryz.prog.globals[2]?).map (·.type) = some 126 := by kernel_rfl
theorem gRan : Tryz.prog.globalNamed "strconv.ErrRange" = some 3 := by kernel_rfl
theorem gRanT : (Tryz.prog.globals[3]?).map (·.type) = some 126 := by kernel_rfl
theorem star : "*" ++ "errors.errorString" = "*errors.errorString" := by decide
theorem rowE (u : TypeId) (h : Tryz.prog.typeName? 3 u = some "*errors.errorString") : u = 268 :=
  typeName_ptr_named (nm := "errors.errorString") (by rw [star]; kernel_rfl) (by kernel_rfl) (by decide) u (by rw [star]; exact h)
/-- What stands in the library's variables. -/
structure LibOk (w : World) : Prop where
  pow : Lib.TabIs Tryz.prog w "internal/strconv.uint64pow10" .u64 Lib.pow10Tab
  max : ∃ m, w.cell? ⟨0, 0, none⟩ = some (.int .i64 m)
  err : ∀ b, b = 2 ∨ b = 3 → ∃ ev, w.cell? ⟨b, 0, none⟩ = some ev ∧ (ev = .nilIface ∨ ∃ te pe, ev = .iface te pe)
def isLib (b : Nat) : Prop := b = 1 ∨ b = 0 ∨ b = 2 ∨ b = 3
theorem lib_same (w w' : World) (h : ∀ b, isLib b → w'.heap[b]? = w.heap[b]?) (k : LibOk w) : LibOk w' := by
  obtain ⟨h1, ⟨m, h2⟩, h3⟩ := k
  refine ⟨?_, ⟨m, (cell_same (h _ (.inr (.inl rfl)))).trans h2⟩, fun b hb => ?_⟩
  · unfold Lib.TabIs World.var? at h1 ⊢
    rw [gTab] at h1 ⊢
    simp only [Option.bind_some] at h1 ⊢
    rw [h _ (.inl rfl)]
    exact h1
  · obtain ⟨ev, h4, h5⟩ := h3 b hb
    exact ⟨ev, (cell_same (h b (by rcases hb with rfl | rfl; exact .inr (.inr (.inl rfl)); exact .inr (.inr (.inr rfl))))).trans h4, h5⟩
def tabs : Tabs := ⟨isLib, LibOk, lib_same⟩
theorem tabs_lt {w : World} (h : tabs.ok w) : ∀ b, tabs.gs b → b < w.heap.size := by
  obtain ⟨h1, ⟨m, h2⟩, h3⟩ := h
  rintro b (rfl | rfl | rfl | rfl)
  · unfold Lib.TabIs World.var? at h1
    rw [gTab] at h1
    simp only [Option.bind_some] at h1
    split at h1
    · rename_i hh
      exact (Array.getElem?_eq_some_iff.1 hh).1
    · cases h1
  · exact World.block_lt_of_cell? _ _ h2
  · obtain ⟨ev, h4, _⟩ := h3 _ (.inl rfl); exact World.block_lt_of_cell? _ _ h4
  · obtain ⟨ev, h4, _⟩ := h3 _ (.inr rfl); exact World.block_lt_of_cell? _ _ h4
theorem hasPow : HasPow tabs := fun w h => h.pow
theorem hasMax : HasMax tabs := fun w h => h.max
theorem hasErr : HasErr tabs := fun w h => h.err
theorem table {W : World} (h : laidMetH Tryz.prog Rows.fnLinesUptoRow.laid W) (hs : W.ShapedOpen Tryz.prog) : tabs.ok W := by
  have h1 : laidMet Tryz.prog Rows.fnLinesUptoRow.laid W := h
  have h2 := h1.tail.tail
  have h4 := h2.tail.tail
  obtain ⟨a1, s1, hv1, _⟩ := laid_sentinel h4 gRan gRanT Tryz.underlying126 rowE Tryz.underlying268 Tryz.underlying270 rfl rfl Tryz.underlying9 cellsE cellsS
  obtain ⟨a2, s2, hv2, _⟩ := laid_sentinel h4.tail gSyn gSynT Tryz.underlying126 rowE Tryz.underlying268 Tryz.underlying270 rfl rfl Tryz.underlying9 cellsE cellsS
  refine ⟨Lib.tabIs_of_head gTab gTabType Tryz.underlying232 Tryz.underlying208 cellsU cellsTab h2, ?_, fun b hb => ?_⟩
  · exact cell_of_shapedOpen_int (t := 3) (zero := #[.int .i64 0]) hs (by decide +kernel) (by kernel_rfl) rfl (by kernel_rfl) (by kernel_rfl) Tryz.underlying3
  · rcases hb with rfl | rfl
    · exact ⟨_, by simpa using World.var?_cell gSyn hv2 0, .inr ⟨_, _, rfl⟩⟩
    · exact ⟨_, by simpa using World.var?_cell gRan hv1 0, .inr ⟨_, _, rfl⟩⟩
theorem bulk_all {H : Type} : ∀ es : List (DataW H), es.length ≤ Rows.uptoBulkAll es ∧ ∀ e ∈ es, Rows.uptoBulk e ≤ Rows.uptoBulkAll es := by
  intro es
  induction es with
  | nil => exact ⟨Nat.le_refl _, fun e h => by cases h⟩
  | cons d r ih =>
    have h1 : 1 ≤ Rows.uptoBulk d := by
      cases d with
      | lit l => cases l <;> simp [Rows.uptoBulk]
      | _ => simp only [Rows.uptoBulk]; omega
    simp only [Rows.uptoBulkAll, List.length_cons]
    refine ⟨by omega, fun e he => ?_⟩
    rcases List.mem_cons.1 he with rfl | he
    · omega
    · have := ih.2 e he; omega
theorem smalls {H : Type} : Smalls (fun d : DataW H => Rows.uptoBulk d ≤ 1048576) :=
  ⟨fun b h => by simp only [Rows.uptoBulk] at h; simp only [big]; omega,
   fun es sp h => by
    simp only [Rows.uptoBulk] at h
    obtain ⟨h1, h2⟩ := bulk_all es
    exact ⟨by simp only [big]; omega, fun e he => by have := h2 e he; omega⟩,
   fun ps h p hp => by
    simp only [Rows.uptoBulk] at h
    have := (bulk_all ps).2 p hp
    omega⟩
theorem loc : locAll tt [22, 5] = true := by kernel_rfl
end Go.Proofs.YtekcghhacpllaaaGreatDoor.lines
set_option linter.unusedVariables false
set_option linter.unusedSimpArgs false
set_option maxRecDepth 100000
set_option maxHeartbeats 8000000
namespace Go.Proofs.YtekcghhacpllaaaGreatDoor.lines
open Go Go.ChangeShapes Go.WideShapes Go.ChangeAt Go.RowKit Go.Proofs.EN Go.Proofs.VT Go.Proofs.SL
theorem contract (H : Type) (enc : TypeId × Value → H) (W : World) (base : Nat) (args : Array Value) (ds gs : List (DataW H)) (before : List MemPlace)
    (hval : ∀ (j : Nat) t v, Tryz.f4.params[j]? = some t → args[j]? = some v → Value.okWide Tryz.prog W .any base t v)
    (hW : DataW.Whole enc Tryz.prog Tryz.f4.params.toList Rows.fnLinesSpec.vars false W args.toList ds gs before) (hsm : Rows.uptoSmall H (ds ++ gs) = true) (hL : laidMetH Tryz.prog Rows.fnLinesUptoRow.laid W) (hS : W.ShapedOpen Tryz.prog) :
    Calls Tryz.prog 4 args W fun e W' => ∃ v, e = .returned v ∧ Rows.fnLinesSpec.post enc Tryz.prog Tryz.f4 false true false false W args v W' := by
  have hW' := hW
  obtain ⟨p, q, hA0, hV, rfl, hfz, hnd⟩ := hW
  have hA : DataW.TrodAll enc Tryz.prog W 0 (fun _ => true) true Tryz.f4.params.toList args.toList ds p := hA0
  rw [Tryz.params4] at hA hval
  obtain ⟨v0, vs0, d0, ds0, p0, q0, hargs, rfl, rfl, h0, r0⟩ := trodAll_cons hA
  obtain ⟨v1, vs1, d1, ds1, p1, q1, hargs1, rfl, rfl, h1, r1⟩ := trodAll_cons r0
  obtain ⟨rfl, rfl, rfl⟩ := trodAll_nil r1
  subst hargs1
  obtain rfl : args = #[v0, v1] := by cases args; simp_all
  obtain ⟨rfl, rfl⟩ := trodVars_none hV
  have h0k := h0
  have h1k := h1
  clear hA0
  simp only [List.append_nil] at hW' hsm
  have hss : Rows.uptoBulk d0 ≤ 1048576 ∧ Rows.uptoBulk d1 ≤ 1048576 := by
    have h9 : Rows.uptoBulkAll [d0, d1] ≤ 1048576 := of_decide_eq_true hsm
    simp only [Rows.uptoBulkAll] at h9
    omega
  obtain ⟨a0, len0, cap0, rfl⟩ : ∃ a len cap, v0 = .slice a len cap := by
    have := Go.WideShapes.okWide_slice Tryz.underlying22 (hval 0 22 v0 rfl rfl)
    first | exact this | (obtain ⟨a, l, c, h, _⟩ := this; exact ⟨a, l, c, h⟩)
  obtain ⟨a1, len1, cap1, rfl⟩ : ∃ a len cap, v1 = .slice a len cap := by
    have := Go.WideShapes.okWide_slice Tryz.underlying22 (hval 1 22 v1 rfl rfl)
    first | exact this | (obtain ⟨a, l, c, h, _⟩ := this; exact ⟨a, l, c, h⟩)
  obtain ⟨fuel0, h0⟩ := h0
  obtain ⟨fuel1, h1⟩ := h1
  obtain ⟨t0, ht0⟩ := bytes_open smalls loc h0 hss.1
  obtain ⟨t1, ht1⟩ := bytes_open smalls loc h1 hss.2
  have hT := table hL hS
  have key := calls_true (W := W) (vs := [.slice a0 len0 cap0, .slice a1 len1 cap1]) (w4 (T := tabs) (code := t0) (more := t1) hasMax hasErr hasPow rfl) hT (tabs_lt hT) rfl (fun i hi => by
    match i, hi with
    | 0, _ => exact .d _ _ ht0
    | 1, _ => exact .d _ _ ht1)
  refine key.mono fun e W' ⟨he, hB⟩ => ?_
  subst he
  have hlt : ∀ x ∈ p0 ++ p1, x.block < W.heap.size := fun x hx => by simpa using hW'.lt x (by simpa using hx)
  have harg0 : ∀ sp : Nat → Bool, (∀ p ∈ p0, sp p.block = true) → DataW.Trod enc Tryz.prog W' 0 sp true 22 (.slice a0 len0 cap0) d0 p0 := fun sp hsp =>
    Go.WideElems.Trod_stays laidOut (by kernel_rfl) (of_decide_eq_true (by kernel_rfl)) h0k (fun x hx => hB.same (hlt x (List.mem_append_left _ hx))) hsp
  have harg1 : ∀ sp : Nat → Bool, (∀ p ∈ p1, sp p.block = true) → DataW.Trod enc Tryz.prog W' 0 sp true 22 (.slice a1 len1 cap1) d1 p1 := fun sp hsp =>
    Go.WideElems.Trod_stays laidOut (by kernel_rfl) (of_decide_eq_true (by kernel_rfl)) h1k (fun x hx => hB.same (hlt x (List.mem_append_right _ hx))) hsp
  refine ⟨_, rfl, post_below (pa := p0 ++ (p1 ++ [])) (pv := []) hW' (fun _ _ _ => trodAll_cons_mk (shut_bool Tryz.underlying4 _) trodAll_mk0) (fun sp hsp => trodAll_cons_mk (harg0 sp fun p hp => hsp p (by simp [hp])) (trodAll_cons_mk (harg1 sp fun p hp => hsp p (by simp [hp])) trodAll_mk0)) (fun _ _ => rfl) (by simp) hB
    (ok_one (by kernel_rfl) rfl (okWide_bool_mk Tryz.underlying4 _))⟩
end Go.Proofs.YtekcghhacpllaaaGreatDoor.lines
set_option linter.unusedVariables false
set_option linter.unusedSimpArgs false
set_option maxRecDepth 100000
set_option maxHeartbeats 8000000
namespace Go.Proofs.YtekcghhacpllaaaGreatDoor.lines
open Go Go.ChangeShapes Go.WideShapes Go.ChangeAt Go.RowKit Go.Proofs.EN Go.Proofs.VT Go.Proofs.SL
/-- A listed table's cells. -/
def cellsOfTab : DataW Unit → List Value
  | .agg ps => ps.flatMap fun p => match p with
    | .lit (.int k n) => [Value.int k n]
    | .agg qs => qs.map fun q => match q with
      | .lit (.int k n) => Value.int k n
      | _ => Go.undef
    | _ => [Go.undef]
  | _ => []
def putTab (d : DataW Unit) : Obj → Obj
  | .cells _ t frozen => .cells (cellsOfTab d).toArray t frozen
  | o => o
noncomputable def low : Nat := (World.holding Tryz.prog default ⟨#[], #[], []⟩).heap.size
def putErr (n : Nat) : Obj → Obj
  | .cells _ t frozen => .cells #[.iface 268 (.pointer (some ⟨n, 0, none⟩))] t frozen
  | o => o
def textOf : DataW Unit → ByteArray
  | .iface _ (.ptr (.agg [.lit (.string l)])) => ⟨l.toArray⟩
  | _ => ⟨#[]⟩
/-- A world for the witness: the tables hold what their initialisers lay. -/
noncomputable def laidWorld (os : Os) : World :=
  let w0 := World.holding Tryz.prog os ⟨#[.cells #[.string (textOf Rows.laid_strconv_ErrSyntax)] 270, .cells #[.string (textOf Rows.laid_strconv_ErrRange)] 270], #[], []⟩
  { w0 with heap := ((((((w0.heap.modify 1 (putTab Rows.laid_internal_strconv_uint64pow10)).modify 6 (putTab Rows.laid_math_bits_deBruijn32tab)).modify 7 (putTab Rows.laid_math_bits_deBruijn64tab)).modify 5 (putTab Rows.laid_unicode_utf8_acceptRanges)).modify 4 (putTab Rows.laid_unicode_utf8_first)).modify 2 (putErr low)).modify 3 (putErr (low + 1)) }
def wArgs : Array Value := #[.slice none 0 0, .slice none 0 0]
set_option maxRecDepth 1000000 in
theorem laid_met (os : Os) : laidMet Tryz.prog Rows.fnLinesUptoRow.laid ((laidWorld os).forCall (fun _ _ => 0) ⟨#[], wArgs, []⟩).memory :=
  laidMet_of_run' 8 (by kernel_rfl) (by kernel_rfl)
theorem reads (os : Os) {H : Type} (enc : TypeId × Value → H) : ∃ places, DataW.whole enc Tryz.prog ((laidWorld os).forCall (fun _ _ => 0) ⟨#[], wArgs, []⟩).memory Tryz.f4.params.toList Rows.fnLinesSpec.vars false wArgs.toList 8 = some ([.nil, .nil], [], places) :=
  ⟨[], by kernel_rfl⟩
set_option maxRecDepth 100000 in
theorem liftedUpto (os : Os) (started : os.Started) (H : Type) (enc : TypeId × Value → H) (F : Stop.Interp) :
    ReturnsInHanded {} Tryz.checked os 4 .any ((Rows.OpenSpec.upto Rows.fnLinesSpec).preRow enc Tryz.prog Tryz.f4 Rows.fnLinesUptoRow.domain false Rows.fnLinesUptoRow.laid) (((Rows.OpenSpec.upto Rows.fnLinesSpec).at F).post enc Tryz.prog Tryz.f4 false true false false) := by
  obtain ⟨places, hx⟩ := reads os enc
  refine returnsInHanded_of_row (C := Tryz.checked) (s := Rows.OpenSpec.upto Rows.fnLinesSpec) own started (by kernel_rfl) Tryz.func4
    (witness_row_at (enc := enc) (C := Tryz.checked) false (laidWorld os) wArgs rfl (by kernel_rfl) (by kernel_rfl) (by kernel_rfl)
      (OpenSpec.preRow_of_cond 8 hx (by kernel_rfl) (fun k hk => by cases hk; kernel_rfl) (by kernel_rfl) (laid_met os))) ?_
  intro W base args ds gs before hval hW _ hcond _ hL hS _
  exact contract H enc W base args ds gs before hval hW (hcond _ rfl) hL hS
theorem saidUpto : Rows.FnLinesUptoSaid :=
  OpenClaim.holds_of_cond 4 Tryz.f4 rfl rfl rfl rfl rfl rfl rfl ⟨rfl, rfl, rfl, rfl, rfl⟩ rfl rfl rfl rfl rfl (by kernel_rfl) Tryz.func4 (by kernel_rfl)
    (of_decide_eq_true (by kernel_rfl)) (by unfold Func.isWrapper; first | (rw [if_pos (by decide +kernel)]; kernel_rfl) | (rw [if_neg (by decide +kernel)]; exact ⟨rfl, rfl⟩))
    (fun os started H enc _ F => by rw [OpenClaim.pre_eq_preRow]; exact liftedUpto os started H enc F)
theorem plain (f : FuncId) (fn : Func) (hf : Tryz.pinned.checked.prog.funcNamed "loop.example/g00540/laws.FnLines" = some f) (hfn : Tryz.pinned.checked.prog.funcs[f]? = some fn) :
    true = Tryz.pinned.checked.prog.looks [] ∧ ∀ (j : Nat) t, fn.params[j]? = some t → Tryz.pinned.checked.prog.wantsStandIn t = false := by
  obtain rfl : f = 4 := Option.some.inj ((show Tryz.prog.funcNamed "loop.example/g00540/laws.FnLines" = some 4 by kernel_rfl).symm.trans hf) |>.symm
  obtain rfl : fn = Tryz.f4 := (Option.some.inj (Tryz.func4.symm.trans hfn)).symm
  refine ⟨by kernel_rfl, fun j t ht => ?_⟩
  rw [Tryz.params4] at ht
  obtain rfl : t = 22 := by simpa using Array.mem_of_getElem? ht
  exact (show Tryz.prog.wantsStandIn 22 = false by kernel_rfl)
theorem cardUpto : Rows.FnLinesUptoCardSaid :=
  Claim7.holds_tied_plain_at .later [] _ _ _ _ saidUpto (fun _ h => by cases h) (by kernel_rfl) (fun _ h => by cases h) fnLinesUpto_row_tie rfl ⟨rfl, rfl⟩ (by kernel_rfl) rfl plain (by kernel_rfl)
end Go.Proofs.YtekcghhacpllaaaGreatDoor.lines
