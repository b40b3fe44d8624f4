/- Contracts of functions of this program, by the evaluator EN; part EN28. No conditions but those that each theorem states. -/
import Derived.Test.YtekcghhacpllaaaGreatDoorEN25
import Derived.Recover
/- Functions that defer a closure which recovers: the way on which nothing panics. -/
namespace Go.Proofs.EN
open Go
set_option linter.unusedVariables false
set_option linter.unusedSimpArgs false
variable {tt : TypeId → Option TI} {P : Program} {c : Ctx} {w : World} {g : Gh} {os : List Ob} {S : Nat → Prop}

theorem wpOpsS_of {ops : Array Oper} {Q : Exit → Act → List Frame → World → Prop} {Q' : Exit → Act → World → Prop} {cs : List Frame} (hq : ∀ e a w, Q' e a w → Q e a cs w) (hno : ¬ LetsOut Q') :
    ∀ (l : List Nat) (a : Act) (w : World), wpOps P ops Q' l a w → wpOpsS P ops Q l a cs w
  | [], a, w, h => hq _ _ _ h
  | i :: rest, a, w, h => by
    have ih := wpOpsS_of (ops := ops) hq hno rest
    simp only [wpOps] at h
    simp only [wpOpsS]
    cases ho : ops[i]? with
    | none => rw [ho] at h; exact ih _ _ h
    | some o =>
      simp only [ho] at h ⊢
      by_cases hw : Region.wanted o (yielded ops a.tmps) = true
      · simp only [hw, if_true] at h ⊢
        rcases h with h | ⟨_, h⟩
        · unfold Oper.wp at h
          generalize (execOp a.eval o).run P w = r at h ⊢
          cases r with
          | ok n w' =>
            cases n <;> simp only [Oper.upon] at h ⊢ <;> first
              | exact ih _ _ h
              | exact h.elim
              | exact Calls.mono h (fun e w'' he => by cases e <;> first | exact ih _ _ he | exact hq _ _ _ he | exact (hno he).elim)
              | exact Rows.mono h (fun _ _ he => ih _ _ he)
          | halt x w' => cases x <;> simp only [Oper.upon] at h ⊢ <;> first | exact hq _ _ _ h | exact h.elim
        · exact (hno h).elim
      · simp only [hw] at h ⊢
        exact ih _ _ h

noncomputable section
def isRec (o : Oper) : Bool := match o.op, o.guard with
  | .call c, none => match c.callee with
    | .builtin .recover => true
    | _ => false
  | _, _ => false
def recEnd (E : Env) (fn : Func) (n : Nat) (K : List Ob → R) : Ex → St → R := fun e s => match e with
  | .normal => resK E fn n (fun _ os => K os) s
  | .ret => resK E fn n (fun _ os => K os) s
  | _ => False
def recK (E : Env) (fn : Func) (nt n : Nat) (rest : Code) (K : List Ob → R) : Ex → St → R := seqK (fun s => evalCode { E with np := n, nt := nt } rest 0 s (recEnd E fn n K)) (fun _ _ => False)
/-- A closure that recovers, when nothing panics. -/
def evalRec (E : Env) (fn : Func) (args : List C) (os : List Ob) (K : List Ob → R) : R :=
  match fn.body with
  | some (.seq (.region rid ops false) rest) => match ops.toList with
    | o0 :: l => bif isRec o0 then
        (⟨argT 0 args, os⟩ : St).putK (bif Nat.ble fn.ntmps args.length then args.length else fn.ntmps) o0.dst (.d .nilI) fun s =>
          evalOps { E with np := os.length, nt := bif Nat.ble fn.ntmps args.length then args.length else fn.ntmps } ops.toList l 1 s
            (recK E fn (bif Nat.ble fn.ntmps args.length then args.length else fn.ntmps) os.length rest K)
      else False
    | [] => False
  | _ => False
end

/-- What a deferred call does when nothing panics. -/
structure WpD (T : Tabs) (P : Program) (tt : TypeId → Option TI) (f : FuncId) (args : List C) (os : List Ob) (K : List Ob → R) : Prop where
  calls : ∀ (c : Ctx) (g : Gh) (vs : List Value), c.T = T → Inv tt c c.w0 g os → vs.length = args.length →
    (∀ i, i < args.length → RepC tt c.w0 (Now c c.w0 g os.length) g os (vs.getD i Go.undef) (args.getD i .undef)) →
    CallsD P f vs.toArray .returning c.w0 fun e u' w' => u' = .returning ∧ ∃ v g' os', e = .returned v ∧ Inv tt c w' g' os' ∧ Later g os g' os' ∧ K os'

theorem RepSt.start {fn : Func} {args : List C} {vs : List Value} (hI : Inv tt c w g os) (hds : c.ds = []) (hvl : vs.length = args.length)
    (hv : ∀ i, i < args.length → RepC tt w (Now c w g os.length) g os (vs.getD i Go.undef) (args.getD i .undef)) :
    RepSt tt c w g (bif Nat.ble fn.ntmps args.length then args.length else fn.ntmps) { tmps := vs.toArray ++ Array.replicate (fn.ntmps - vs.toArray.size) undef, defers := [] } ⟨argT 0 args, os⟩ := by
  have hntd : args.length + (fn.ntmps - args.length) = bif Nat.ble fn.ntmps args.length then args.length else fn.ntmps := by
    cases hb : Nat.ble fn.ntmps args.length with
    | true => have := Nat.le_of_ble_eq_true hb; simp; omega
    | false =>
      have : ¬ fn.ntmps ≤ args.length := fun h => by rw [Nat.ble_eq_true_of_le h] at hb; cases hb
      simp; omega
  refine ⟨hI, hds.symm, ?_, fun t => ?_⟩
  · rw [← hntd]; simp [hvl]
  · rw [argT_look, if_pos (Nat.zero_le _), Nat.sub_zero]
    simp only [Array.getD_eq_getD_getElem?, List.getD_eq_getElem?_getD] at hv ⊢
    by_cases hlt : t < args.length
    · rw [Array.getElem?_append_left (by simp; omega)]
      have := hv t hlt
      simpa using this
    · rw [List.getElem?_eq_none (by omega)]
      exact .undef _

theorem post_noOut {nt : Nat} {gg : Gh} {os0 : List Ob} {K : Ex → St → R} : ¬ LetsOut (Post tt c nt gg os0 K) := fun ⟨_, _, h⟩ => h
theorem isRec_run {o : Oper} (h : isRec o = true) (a : Act) (w : World) : (execOp a.eval o).run P w = .ok .recover w ∧ o.guard = none := by
  unfold isRec at h
  split at h
  · rename_i cc hop hg
    split at h
    · rename_i hcal
      refine ⟨?_, hg⟩
      simp [execOp, hop, resolve, hcal, invoke, builtin]
    · cases h
  · cases h

theorem WpD.of {T : Tabs} (hT : TTok P tt) {E : Env} (hE : E.B.tt = tt) (hX : ∀ f args os Kr Kp, E.B.W f args os Kr Kp → Wp T P tt f args os Kr Kp) (hm : P.follows .mixedOrders = true)
    {f : FuncId} {fn : Func} (hf : P.funcs[f]? = some fn) {args : List C} {os : List Ob} {K : List Ob → R} (h : evalRec E fn args os K) : WpD T P tt f args os K := by
  suffices main : ∀ (c : Ctx) (g : Gh) (vs : List Value), c.T = T → c.ds = [] → Inv tt c c.w0 g os → vs.length = args.length →
      (∀ i, i < args.length → RepC tt c.w0 (Now c c.w0 g os.length) g os (vs.getD i Go.undef) (args.getD i .undef)) →
      CallsD P f vs.toArray .returning c.w0 fun e u' w' => u' = .returning ∧ ∃ v g' os', e = .returned v ∧ Inv tt c w' g' os' ∧ Later g os g' os' ∧ K os' by
    refine ⟨fun c g vs hcT hI hvl hv => ?_⟩
    exact (main { c with ds := [] } g vs hcT rfl (hI.withDs []) hvl hv).mono fun e u' w' ⟨hu, v, g', os', h0, h1, h2, h3⟩ => ⟨hu, v, g', os', h0, h1.withDs c.ds, h2, h3⟩
  intro c g vs hcT hds hI hvl hv
  subst hcT
  unfold evalRec at h
  split at h
  · rename_i rid ops rest hbody
    split at h
    · rename_i o0 l hl
      obtain ⟨hr, h⟩ := bif_some3 h
      rw [putK_eq] at h
      have hst := RepSt.start (fn := fn) hI hds hvl hv
      refine callsD_of_wpS hf hbody fun c₀ cs hu => ?_
      refine wpS_seq (wpS_region ?_)
      have hsz : ops.size = l.length + 1 := by rw [← Array.length_toList, hl]; simp
      have h0 : ops[0]? = some o0 := by rw [← Array.getElem?_toList, hl]; rfl
      rw [hsz, List.range_eq_range', List.range'_succ]
      simp only [wpOpsS, h0]
      obtain ⟨hrun, hg⟩ := isRec_run (P := P) hr { tmps := vs.toArray ++ Array.replicate (fn.ntmps - vs.toArray.size) undef, defers := [] } c.w0
      have hw : Region.wanted o0 (yielded ops (vs.toArray ++ Array.replicate (fn.ntmps - vs.toArray.size) undef)) = true := by simp [Region.wanted, hg]
      simp only [hw, if_true, hrun, recoverD, hu]
      refine wpOpsS_of (Q' := Post tt c (bif Nat.ble fn.ntmps args.length then args.length else fn.ntmps) g os (recK E fn (bif Nat.ble fn.ntmps args.length then args.length else fn.ntmps) os.length rest K)) ?_ post_noOut _ _ _ ?_
      case refine_2 =>
        rw [show (0 : Nat) + 1 = 1 from rfl, wpOps_eq_wpList l 1 (fun j => by rw [← Array.getElem?_toList, hl, Nat.add_comm]; rfl)]
        exact evalOps_sound hT (E := { E with np := os.length, nt := _ }) hE rfl hX l 1 _ _ _ h ⟨g, hst.put o0.dst (.d _ _ .nilI), by rw [put_objs]; exact .refl _ _⟩
      case refine_1 =>
        intro e a w hq
        cases e with
        | normal =>
          obtain ⟨s, hat, hk⟩ := hq
          refine wpS_of_wp (wp_mono (evalCode_sound (tt := tt) (c := c) (gg := g) (os0 := os) hT (E := { E with np := os.length, nt := _ }) hE rfl hX hm hI.len rest 0 _ _ _ w hk hat) fun e a' w' hq => ?_)
          have hc₀ : c₀ :: cs = { c₀ with mode := .returning } :: cs := by rw [← hu]
          cases e with
          | normal =>
            obtain ⟨s, hat, hk⟩ := hq
            obtain ⟨v, hr, x', g'', os'', a1, a2, a3, a4⟩ := done_sound (E := E) hT hE hI.len hat hk
            exact ⟨(hat.choose_spec.1.dfr).trans hds, .returning, hc₀, v, hr, rfl, v, g'', os'', rfl, a1, a2, a4⟩
          | ret =>
            obtain ⟨s, hat, hk⟩ := hq
            obtain ⟨v, hr, x', g'', os'', a1, a2, a3, a4⟩ := done_sound (E := E) hT hE hI.len hat hk
            exact ⟨(hat.choose_spec.1.dfr).trans hds, .returning, hc₀, v, hr, rfl, v, g'', os'', rfl, a1, a2, a4⟩
          | panic ch => obtain ⟨v, rfl, s, g', x, b1, b2, b3, b4, b5⟩ := hq; exact b5.elim
          | exit i => obtain ⟨s, hat, hk⟩ := hq; exact hk.elim
          | goto l => exact hq.elim
          | outgrown => exact hq.elim
        | exit i => obtain ⟨s, hat, hk⟩ := hq; exact hk.elim
        | ret => obtain ⟨s, hat, hk⟩ := hq; exact hk.elim
        | panic ch => obtain ⟨v, rfl, s, g', x, b1, b2, b3, b4, b5⟩ := hq; exact b5.elim
        | goto l => exact hq.elim
        | outgrown => exact hq.elim
    · cases h
  · cases h

/-- The deferred call at a function's end. -/
theorem deferred_sound {T : Tabs} {nt : Nat} {a : Act} {s : St} (hs : RepSt tt c w g nt a s) {f : FuncId} {caps : List C} {us : List Value} {ks : List Nat} {K : List Ob → R} (hT : c.T = T) (hul : us.length = caps.length)
    (hu : ∀ i, i < caps.length → RepC tt w (Now c w g s.objs.length) g s.objs (us.getD i Go.undef) (caps.getD i .undef)) (hok : ksOK s.objs.length 0 ks = true)
    (hC : WpD T P tt f (caps.map (C.ren fun o => idxN o ks 0)) (pickObs ks s.objs ks) K) :
    CallsD P f us.toArray .returning w fun e u' w' => u' = .returning ∧ ∃ v os2 g3, e = .returned v ∧ RepSt tt c w' g3 nt a ⟨s.tmps, setObs (backM ks s.objs.length) s.objs ks os2⟩ ∧ Later g s.objs g3 (setObs (backM ks s.objs.length) s.objs ks os2) ∧ K os2 := by
  have hp := Pick.of hok
  have hI : Inv tt c w g s.objs := hs.inv
  have mapr : ∀ (m : Nat → Option Nat) (cs : List C) (i : Nat), (cs.map (C.ren m)).getD i .undef = (cs.getD i .undef).ren m := by
    intro m cs i
    simp only [List.getD_eq_getElem?_getD, List.getElem?_map]
    cases cs[i]? with
    | none => rfl
    | some x => rfl
  have hnt : ∀ b, Tracked (pickG ks g) ks.length b → Tracked g s.objs.length b := fun b hb => by
    obtain ⟨k, hk, h⟩ := pick_tracked hp hb
    exact ⟨k, hp.lt k hk, h⟩
  let c1 : Ctx := { T := c.T, S0 := Now c w g s.objs.length, X := Tracked (pickG ks g) ks.length, w0 := w }
  have hI1 : Inv tt c1 w (pickG ks g) (pickObs ks s.objs ks) :=
    hI.pick hp (fun b hb => .inl hb) (fun b hb => ⟨.inr hb, by obtain ⟨o, ho, h⟩ := hnt b hb; exact (hI.own o b ho h).2⟩) (Kept.refl _ _) (fun b hb => ⟨(hI.now_lt hb).1, fun ht => (hI.now_lt hb).2 (hnt b ht)⟩) hI.tabNow
  have hpl := pickObs_length ks s.objs ks
  refine (hC.calls c1 (pickG ks g) us hT hI1 (by simp [hul]) (fun i hi => ?_)).mono ?_
  · rw [mapr]
    rw [List.length_map] at hi
    exact (hu i hi).ren' (fun b hb => .inl hb) (pick_later hp hI.len)
  · rintro e u' w' ⟨hu', v, g', os2, he, hI', hg, hk⟩
    obtain ⟨hB, hLM, hN⟩ := hI.back hp (c1 := c1) rfl rfl hI' hg (fun hLM hN j i ob u hm h1 h2 h3 h4 => (hI'.ob j ob u h1 h2).ren (hN fun b hb => hb) hLM h3 h4)
    exact ⟨hu', v, os2, _, he, ⟨hB.inv, hs.dfr, hs.len, fun i => hB.stp.rep (hs.tmp i)⟩, hB.stp.later, hk⟩

noncomputable section
def deferOf (o : Oper) : Option Operand := match o.op, o.guard, o.dst with
  | .defer c, none, none => match c.callee with
    | .value x => bif c.args.toList.isEmpty then some x else none
    | _ => none
  | _, _, _ => none
def isRef : C → Bool
  | .ref _ _ => true
  | _ => false
/-- The deferred call, and the results. -/
def endD (E : Env) (D : List C → List Ob → (List Ob → R) → R) (fn : Func) (n : Nat) (caps : List C) (Kr : C → List Ob → R) (s : St) : R :=
  sqN (reach s.objs 300 (refsL caps) []) fun ks => bif ksOK s.objs.length 0 ks then
    sqL (caps.map (C.ren fun o => idxN o ks 0)) fun as => sqO (pickObs ks s.objs ks) fun os1 =>
      D as os1 fun os2 => sqO (setObs (backM ks s.objs.length) s.objs ks os2) fun os3 => resK E fn n Kr ⟨s.tmps, os3⟩
    else False
def bodyD (E : Env) (D : List C → List Ob → (List Ob → R) → R) (fn : Func) (n : Nat) (caps : List C) (Kr : C → List Ob → R) : Ex → St → R := fun e s => match e with
  | .normal => endD E D fn n caps Kr s
  | .ret => endD E D fn n caps Kr s
  | _ => False
def restD (E : Env) (g : FuncId) (D : List C → List Ob → (List Ob → R) → R) (fn : Func) (nt n : Nat) (rest : Code) (x : Operand) (Kr : C → List Ob → R) : Ex → St → R := seqK (fun s => match s.ev x with
    | .func g' caps => bif Nat.beq g' g && caps.all isRef then evalCode { E with np := s.objs.length, nt := nt } rest 0 s (bodyD E D fn n caps Kr) else False
    | _ => False) (fun _ _ => False)
/-- A function that defers a closure, when nothing panics. -/
def evalFnD (E : Env) (g : FuncId) (D : List C → List Ob → (List Ob → R) → R) (fn : Func) (args : List C) (os : List Ob) (Kr : C → List Ob → R) : R :=
  match fn.body with
  | some (.seq A (.seq (.region rid ops false) rest)) => match ops.toList.getLast? with
    | some od => match deferOf od with
      | some x => evalCode { E with np := os.length, nt := bif Nat.ble fn.ntmps args.length then args.length else fn.ntmps } A 0 ⟨argT 0 args, os⟩
          (seqK (fun s => evalOps { E with np := os.length, nt := bif Nat.ble fn.ntmps args.length then args.length else fn.ntmps } ops.toList ops.toList.dropLast 0 s (restD E g D fn (bif Nat.ble fn.ntmps args.length then args.length else fn.ntmps) os.length rest x Kr)) (fun _ _ => False))
      | none => False
    | none => False
  | _ => False
end
theorem deferOf_run {o : Oper} {x : Operand} (h : deferOf o = some x) {a : Act} {w : World} {f : FuncId} {us : Array Value} (hx : a.eval x = .func (.func f) #[] us) : (execOp a.eval o).run P w = .ok (.defer { target := .fn (.func f) us, args := #[] }) w ∧ o.guard = none ∧ o.dst = none := by
  unfold deferOf at h
  split at h
  · rename_i cc hop hg hd
    split at h
    · rename_i y hcal
      cases hb : cc.args.toList.isEmpty with
      | false => rw [hb] at h; cases h
      | true =>
        rw [hb] at h
        cases h
        refine ⟨?_, hg, hd⟩
        have ha : cc.args = #[] := by
          have : cc.args.toList = [] := by simpa using hb
          rw [← Array.toList_eq_nil_iff]; exact this
        simp [execOp, hop, resolve, hcal, hx, Deferred.ofValue, ha]
    · cases h
  · cases h
theorem upon_then {o : Oper} {a : Act} {K N : Act → World → Prop} {Q : Exit → Act → World → Prop} {r : Result Next} : o.upon P a K (Exit.then N Q) r = o.upon P a K Q r := by
  cases r with
  | ok n w => cases n <;> rfl
  | halt x w => cases x <;> rfl
theorem wpList_append {ops : Array Oper} {Q : Exit → Act → World → Prop} : ∀ (l : List Oper) {r : List Oper} {a : Act} {w : World}, wpList P ops (Exit.then (wpList P ops Q r) Q) l a w → wpList P ops Q (l ++ r) a w
  | [], r, a, w, h => h
  | o :: l, r, a, w, h => by
    simp only [List.cons_append, wpList] at h ⊢
    split
    · rename_i hw
      rw [if_pos hw] at h
      refine h.imp (fun h => ?_) id
      unfold Oper.wp at h
      rw [upon_then] at h
      exact Oper.wp_mono (fun a w h => wpList_append l h) h
    · rename_i hw
      rw [if_neg hw] at h
      exact wpList_append l h
theorem upon_monoQ {o : Oper} {a : Act} {K : Act → World → Prop} {Q Q' : Exit → Act → World → Prop} (hq : ∀ e a w, Q e a w → Q' e a w) {r : Result Next} (h : o.upon P a K Q r) : o.upon P a K Q' r := by
  cases r with
  | ok n w' =>
    cases n <;> simp only [Oper.upon] at h ⊢ <;> first
      | exact h
      | exact Calls.mono h (fun e w'' he => by cases e <;> first | exact he | exact hq _ _ _ he | (obtain ⟨a, w, he⟩ := he; exact ⟨a, w, hq _ _ _ he⟩))
  | halt x w' => cases x <;> simp only [Oper.upon] at h ⊢ <;> first | exact h | exact hq _ _ _ h
theorem wpList_mono {ops : Array Oper} {Q Q' : Exit → Act → World → Prop} (hq : ∀ e a w, Q e a w → Q' e a w) : ∀ (l : List Oper) {a : Act} {w : World}, wpList P ops Q l a w → wpList P ops Q' l a w
  | [], a, w, h => hq _ _ _ h
  | o :: l, a, w, h => by
    simp only [wpList] at h ⊢
    split
    · rename_i hw
      rw [if_pos hw] at h
      refine h.imp (fun h => ?_) (fun ⟨h1, a, w, h2⟩ => ⟨h1, a, w, hq _ _ _ h2⟩)
      exact Oper.wp_mono (fun a w h => wpList_mono hq l h) (upon_monoQ hq h)
    · rename_i hw
      rw [if_neg hw] at h
      exact wpList_mono hq l h
theorem refs_later {w w' : World} {S S' : Nat → Prop} {g g' : Gh} {os os' : List Ob} {v : Value} {x : C} (hx : isRef x = true) (hl : Later g os g' os') (h : RepC tt w S g os v x) : RepC tt w' S' g' os' v x := by
  cases h with
  | ref o off b h => exact .ref o off b (hl.ext _ _ h)
  | _ => cases hx

theorem Wp.ofD {T : Tabs} (hT : TTok P tt) {E : Env} (hE : E.B.tt = tt) (hX : ∀ f args os Kr Kp, E.B.W f args os Kr Kp → Wp T P tt f args os Kr Kp) (hm : P.follows .mixedOrders = true)
    {f : FuncId} {fn : Func} (hf : P.funcs[f]? = some fn) (hname : (fn.name == "runtime.NumGoroutine") = false) {gf : FuncId} {D : List C → List Ob → (List Ob → R) → R} (hD : ∀ args os K, D args os K → WpD T P tt gf args os K)
    (henter : ∀ args w, (callFunc gf args).run P w = .ok (.enter gf args) w) {args : List C} {os : List Ob} {Kr Kp : C → List Ob → R} (h : evalFnD E gf D fn args os Kr) : Wp T P tt f args os Kr Kp := by
  unfold evalFnD at h
  split at h
  · rename_i A rid ops rest hbody
    refine ⟨fun args w => ?_, ?_⟩
    · have hne : ¬ fn.name = "runtime.NumGoroutine" := by simpa using hname
      simp [callFunc, hf, hne, hbody]
    suffices main : ∀ (c : Ctx) (g : Gh) (vs : List Value), c.T = T → c.ds = [] → Inv tt c c.w0 g os → vs.length = args.length →
        (∀ i, i < args.length → RepC tt c.w0 (Now c c.w0 g os.length) g os (vs.getD i Go.undef) (args.getD i .undef)) →
        Calls P f vs.toArray c.w0 fun e w' => ∃ v x g' os', Inv tt c w' g' os' ∧ Later g os g' os' ∧ RepC tt w' (Now c w' g' os'.length) g' os' v x ∧
          ((e = .returned v ∧ Kr x os') ∨ (e = .panicked [{ v, recovered := false }] ∧ Kp x os')) by
      intro c g vs hcT hI hvl hv
      exact (main { c with ds := [] } g vs hcT rfl (hI.withDs []) hvl hv).mono fun e w' ⟨v, x, g', os', h1, h2, h3, h4⟩ => ⟨v, x, g', os', h1.withDs c.ds, h2, h3, h4⟩
    intro c g vs hcT hds hI hvl hv
    subst hcT
    split at h
    · rename_i od hod
      split at h
      · rename_i x hx
        have hlast : ops.toList = ops.toList.dropLast ++ [od] := by
          obtain ⟨ys, hys⟩ := List.getLast?_eq_some_iff.1 hod
          rw [hys]; simp
        have hst := RepSt.start (fn := fn) hI hds hvl hv
        generalize hnt : (bif Nat.ble fn.ntmps args.length then args.length else fn.ntmps) = nt at h hst
        refine calls_of_wp_defers hf hbody (wp_seq (wp_mono (evalCode_sound (tt := tt) (c := c) (nt := nt) (gg := g) (os0 := os) hT (E := { E with np := os.length, nt := nt }) hE rfl hX hm hI.len A 0 _ _ _ c.w0 h ⟨g, hst, .refl _ _⟩) ?_))
        intro e a1 w1 hq
        cases e with
        | normal =>
          obtain ⟨s1, hat1, h⟩ := hq
          suffices key : wpList P ops (Exit.then (rest.wp P (bodyPostD P fn fun e w' => ∃ v x g' os', Inv tt c w' g' os' ∧ Later g os g' os' ∧ RepC tt w' (Now c w' g' os'.length) g' os' v x ∧
              ((e = .returned v ∧ Kr x os') ∨ (e = .panicked [{ v, recovered := false }] ∧ Kp x os')))) (bodyPostD P fn fun e w' => ∃ v x g' os', Inv tt c w' g' os' ∧ Later g os g' os' ∧ RepC tt w' (Now c w' g' os'.length) g' os' v x ∧
              ((e = .returned v ∧ Kr x os') ∨ (e = .panicked [{ v, recovered := false }] ∧ Kp x os')))) (ops.toList.dropLast ++ [od]) a1 w1 by
            rw [← hlast] at key
            exact wp_seq (wp_region_list key)
          refine wpList_append _ (wpList_mono ?_ _ (evalOps_sound hT (E := { E with np := os.length, nt := nt }) hE rfl hX _ 0 _ _ _ h hat1))
          intro e a2 w2 hq
          cases e with
          | normal =>
            obtain ⟨s2, ⟨g2, hs2, hl2⟩, h⟩ := hq
            simp only [restD, seqK] at h
            split at h
            · rename_i g' caps hev
              obtain ⟨hc, hrest⟩ := bif_some3 h
              simp only [Bool.and_eq_true, List.all_eq_true] at hc
              obtain rfl := Nat.eq_of_beq_eq_true hc.1
              have hfx := hs2.ev x
              rw [hev] at hfx
              generalize hev2 : a2.eval x = vf at hfx
              cases hfx with
              | func _ _ us hul hur =>
              obtain ⟨hrun, hg, hdst⟩ := deferOf_run (P := P) hx (w := w2) hev2
              show wpList P ops _ [od] a2 w2
              simp only [wpList]
              rw [if_pos (by simp [Region.wanted, hg])]
              refine .inl ?_
              unfold Oper.wp
              rw [hrun]
              simp only [Oper.upon, hdst, Act.put, Exit.then]
              have had : a2.defers = [] := hs2.dfr.trans hds
              rw [had]
              let d : Deferred := { target := .fn (.func g') us, args := #[] }
              let c' : Ctx := { c with ds := [d] }
              have hs2' : RepSt tt c' w2 g2 nt { a2 with defers := [d] } s2 := ⟨hs2.inv.withDs _, rfl, hs2.len, hs2.tmp⟩
              have fine : ∀ {a3 : Act} {w3 : World} {s3 : St}, At tt c' nt g2 s2.objs s3 a3 w3 → endD E D fn os.length caps Kr s3 → Leaves P fn a3.tmps (fun e w' => ∃ v x g' os', Inv tt c w' g' os' ∧ Later g os g' os' ∧ RepC tt w' (Now c w' g' os'.length) g' os' v x ∧
                  ((e = .returned v ∧ Kr x os') ∨ (e = .panicked [{ v, recovered := false }] ∧ Kp x os'))) a3.defers .returning w3 := by
                intro a3 w3 s3 ⟨g3, hs3, hl3⟩ hk
                unfold endD at hk
                rw [sqN_eq] at hk
                generalize reach s3.objs 300 (refsL caps) [] = ks at hk
                obtain ⟨hok, hk⟩ := bif_some3 hk
                simp only [sqL_eq, sqO_eq] at hk
                rw [hs3.dfr]
                refine leaves_cons (f := g') (args := us) (by simp) (by simp [invoke, henter]) ?_
                have hds3 := deferred_sound (us := us.toList) (ks := ks) hs3 rfl (by simpa using hul) (fun i hi => by
                  have h1 := hur i hi
                  rw [getD_toList]
                  refine refs_later (hc.2 _ ?_) hl3 h1
                  rw [List.getD_eq_getElem?_getD, List.getElem?_eq_getElem hi]
                  exact List.getElem_mem hi) hok (hD _ _ _ hk)
                rw [Array.toArray_toList] at hds3
                refine hds3.mono ?_
                rintro e u' w4 ⟨rfl, v, os2, g4, rfl, hs4, hl4, hk4⟩
                obtain ⟨v, hr, x', g'', os'', a1, a2, a3, a4⟩ := done_sound (E := E) (g := g) (os := os) hT hE hI.len ⟨g4, hs4, (hl2.trans hl3).trans hl4⟩ hk4
                exact ⟨v, hr, v, x', g'', os'', a1.withDs c.ds, a2, a3, .inl ⟨rfl, a4⟩⟩
              refine wp_mono (evalCode_sound (tt := tt) (c := c') (nt := nt) (gg := g2) (os0 := s2.objs) hT (E := { E with np := s2.objs.length, nt := nt }) hE rfl hX hm hs2.inv.len rest 0 _ _ _ w2 hrest ⟨g2, hs2', .refl _ _⟩) ?_
              intro e a3 w3 hq
              cases e with
              | normal => obtain ⟨s3, hat, hk⟩ := hq; exact fine hat hk
              | ret => obtain ⟨s3, hat, hk⟩ := hq; exact fine hat hk
              | exit i => obtain ⟨s, hat, hk⟩ := hq; exact hk.elim
              | panic ch => obtain ⟨v, rfl, s, g', x, b1, b2, b3, b4, b5⟩ := hq; exact b5.elim
              | goto l => exact hq.elim
              | outgrown => exact hq.elim
            · exact h.elim
          | exit i => obtain ⟨s, hat, hk⟩ := hq; exact hk.elim
          | ret => obtain ⟨s, hat, hk⟩ := hq; exact hk.elim
          | panic ch => obtain ⟨v, rfl, s, g', x, b1, b2, b3, b4, b5⟩ := hq; exact b5.elim
          | goto l => exact hq.elim
          | outgrown => exact hq.elim
        | exit i => obtain ⟨s, hat, hk⟩ := hq; exact hk.elim
        | ret => obtain ⟨s, hat, hk⟩ := hq; exact hk.elim
        | panic ch => obtain ⟨v, rfl, s, g', x, b1, b2, b3, b4, b5⟩ := hq; exact b5.elim
        | goto l => exact hq.elim
        | outgrown => exact hq.elim
      · cases h
    · cases h
  · cases h
end Go.Proofs.EN
