/- Contracts of functions of this program, by the evaluator EN. No conditions but those that each theorem states. -/
import Derived.Test.YtekcghhacpllaaaGreatDoorEN23
/- Code and functions. -/
namespace Go.Proofs.EN
open Go
set_option linter.unusedVariables false
set_option linter.unusedSimpArgs false
variable {tt : TypeId → Option TI} {P : Program} {c : Ctx} {w : World} {g : Gh} {os : List Ob} {S : Nat → Prop}
variable {nt : Nat} {gg : Gh} {os0 : List Ob}

/-! ### What is kept at a loop's head -/
theorem keepT_look (m : Nat → Option Nat) (ts : List (Nat × C)) : ∀ (l : List Nat) (t : Nat), look t (keepT m ts l) = .undef ∨ look t (keepT m ts l) = (look t ts).ren m
  | [], t => .inl rfl
  | u :: r, t => by
    simp only [keepT, look_cons]
    cases h : Nat.beq u t with
    | true =>
      have := Nat.eq_of_beq_eq_true h
      subst this
      exact .inr rfl
    | false => exact keepT_look m ts r t

/-- A choice that keeps the first objects where they are. -/
theorem pick_grows {np : Nat} {ks : List Nat} (hok : ksOK os.length np ks = true) (hl : g.η.length = os.length) (hnp : gg.η.length = np) (hg : Later gg os0 g os) : Later gg os0 (pickG ks g) (pickObs ks os ks) := by
  have hp := Pick.of hok
  simp only [ksOK, Bool.and_eq_true] at hok
  obtain ⟨h1, h2, h3⟩ := hok
  have hk : ∀ o, o < gg.η.length → ks[o]? = some o := fun o ho => by
    have := upto_get np 0 o (by omega)
    rw [Nat.zero_add] at this
    exact prefN_get h3 o o this
  have hob : ∀ o, o < gg.η.length → (pickObs ks os ks)[o]? = (os[o]?).map (Ob.ren (pm ks)) := fun o ho => pick_ob (hk o ho) (hp.lt o (List.mem_of_getElem? (hk o ho)))
  refine ⟨fun o v hv => ?_, fun o ho hd => (ren_dead (hob o ho)).2 (hg.dead o ho hd), fun o T n ho hx => hg.r3 o T n ho ((isR3_ren (hob o ho)).1 hx), fun o T ver n ho hx => ?_⟩
  · have ho := (List.getElem?_eq_some_iff.1 hv).1
    have h4 := hp.lt o (List.mem_of_getElem? (hk o ho))
    rw [pickG_η (hk o ho) (by omega)]
    exact hg.ext o v hv
  · rw [pickG_ν (hk o ho)]
    exact hg.rh o T ver n ho ((isRH_ren (hob o ho)).1 hx)
theorem Inv.pickSame (hI : Inv tt c w g os) {ks : List Nat} (hp : Pick ks os.length) : Inv tt c w (pickG ks g) (pickObs ks os ks) ∧ ∀ v x, RepC tt w (Now c w g os.length) g os v x → RepC tt w (Now c w (pickG ks g) (pickObs ks os ks).length) (pickG ks g) (pickObs ks os ks) v (x.ren (pm ks)) := by
  have hnt : ∀ b, Tracked (pickG ks g) ks.length b → Tracked g os.length b := fun b hb => by
    obtain ⟨k, hk, h⟩ := pick_tracked hp hb
    exact ⟨k, hp.lt k hk, h⟩
  have hS : ∀ b, Now c w g os.length b → Now c w (pickG ks g) ks.length b := by
    intro b hb
    rcases hb with hb | ⟨h0, h1, h2⟩
    · exact .inl hb
    · exact .inr ⟨h0, h1, fun h => h2 (hnt b h)⟩
  refine ⟨hI.pick hp hS (fun b hb => ?_) hI.kept hI.s0 hI.tab, fun v x h => ?_⟩
  · obtain ⟨o, ho, h⟩ := hnt b hb
    exact hI.own o b ho h
  · rw [pickObs_length]
    exact h.ren' hS (pick_later hp hI.len)

/-- Rows owned less deep. -/
theorem caps_step {a : Act} {s : St} (m : Md) : ∀ (k : Nat) {g : Gh}, RepSt tt c w g nt a s → ∃ g', RepSt tt c w g' nt a ⟨s.tmps, (s.objs.take k).map (capOb tt m) ++ s.objs.drop k⟩ ∧ Later g s.objs g' ((s.objs.take k).map (capOb tt m) ++ s.objs.drop k) := by
  intro k
  induction k with
  | zero => intro g hs; exact ⟨g, by simpa using hs, by simpa using Later.refl g s.objs⟩
  | succ k ih =>
    intro g hs
    obtain ⟨g1, hs1, l1⟩ := ih hs
    rcases Nat.lt_or_ge k s.objs.length with hlt | hge
    · have hget : ((s.objs.take k).map (capOb tt m) ++ s.objs.drop k)[k]? = some s.objs[k] := by
        rw [List.getElem?_append_right (by simp; omega)]
        simp
        rw [show k + (k - min k s.objs.length) = k by omega, List.getElem?_eq_getElem hlt]
      have hset : ∀ x, ((s.objs.take k).map (capOb tt m) ++ s.objs.drop k).set k x = (s.objs.take k).map (capOb tt m) ++ x :: s.objs.drop (k + 1) := fun x => by
        rw [List.set_append_right _ _ (by simp; omega)]
        have e0 : k - ((s.objs.take k).map (capOb tt m)).length = 0 := by simp; omega
        rw [e0, List.drop_eq_getElem_cons hlt]
        rfl
      have hfin : (s.objs.take (k + 1)).map (capOb tt m) ++ s.objs.drop (k + 1) = (s.objs.take k).map (capOb tt m) ++ capOb tt m s.objs[k] :: s.objs.drop (k + 1) := by
        rw [List.take_add_one, List.getElem?_eq_getElem hlt, List.map_append]
        simp only [Option.toList_some, List.map_cons, List.map_nil, List.append_assoc, List.cons_append, List.nil_append]
      have same : capOb tt m s.objs[k] = s.objs[k] → ∃ g', RepSt tt c w g' nt a ⟨s.tmps, (s.objs.take (k + 1)).map (capOb tt m) ++ s.objs.drop (k + 1)⟩ ∧ Later g s.objs g' ((s.objs.take (k + 1)).map (capOb tt m) ++ s.objs.drop (k + 1)) := fun he => by
        rw [hfin, he, ← List.drop_eq_getElem_cons hlt]
        exact ⟨g1, hs1, l1⟩
      cases hob : s.objs[k] with
      | row T md ver xs =>
        cases hf : flatT tt T with
        | true => exact same (by rw [hob]; simp [capOb, hf])
        | false =>
          rw [hob] at hget
          obtain ⟨g2, hs2, st2, _⟩ := weak_step (md' := Md.min md m) hs1 hget (min_le md m).1
          simp only [hset] at hs2 st2
          rw [hfin, hob]
          simp only [capOb, hf, cond_false]
          exact ⟨g2, hs2, l1.trans st2.later⟩
      | _ => exact same (by rw [hob]; rfl)
    · have e1 : s.objs.take (k + 1) = s.objs.take k := by rw [List.take_of_length_le (by omega), List.take_of_length_le hge]
      have e2 : s.objs.drop (k + 1) = s.objs.drop k := by rw [List.drop_of_length_le (by omega), List.drop_of_length_le hge]
      rw [e1, e2]
      exact ⟨g1, hs1, l1⟩
theorem norm_sound {E : Env} (hE : E.B.tt = tt) {id : Nat} {s s0 : St} {a : Act} (hnp : gg.η.length = E.np) (h : norm E id s = some s0) (hat : At tt c nt gg os0 s a w) : At tt c nt gg os0 s0 a w := by
  unfold norm at h
  split at h
  · cases h
    exact hat
  · rename_i lv hlv
    rw [sqN_eq] at h
    generalize reach s.objs 300 (upto E.np 0 ++ liveRefs s.tmps lv) [] = ks at h
    obtain ⟨hok, h⟩ := bif_some' h
    cases h
    obtain ⟨g, hs, hg⟩ := hat
    have hg' := pick_grows hok hs.inv.len hnp hg
    have hp := Pick.of hok
    obtain ⟨hI, hr⟩ := hs.inv.pickSame hp
    have hs1 : RepSt tt c w (pickG ks g) nt a ⟨keepT (fun o => idxN o ks 0) s.tmps lv, pickObs ks s.objs ks⟩ := by
      refine ⟨hI, hs.dfr, hs.len, fun t => ?_⟩
      rcases keepT_look (fun o => idxN o ks 0) s.tmps lv t with h | h
      · rw [h]; exact .undef _
      · rw [h]; exact hr _ _ (hs.tmp t)
    obtain ⟨g2, hs2, l2⟩ := caps_step E.cap (pickObs ks s.objs ks).length hs1
    rw [List.take_length, List.drop_length, List.append_nil] at hs2 l2
    rw [hE]
    exact ⟨g2, hs2, hg'.trans l2⟩

/-- A loop, from within. -/
def LW (P : Program) (co : Code) (Q : Exit → Act → World → Prop) (a : Act) (w : World) : Prop :=
  ∀ (b : Frame) (k : List Item) (cs : List Frame), ∃ e a' w', Q e a' w' ∧ Arrives P (lone (b.at a (.code co :: .inLoop co :: k)) cs w) b k cs e a' w'
theorem LW.step {co : Code} {Q : Exit → Act → World → Prop} {a : Act} {w : World} (h : co.wp P (Exit.then (LW P co Q) Q) a w) : LW P co Q a w := by
  intro b k cs
  obtain ⟨e, a₁, w₁, hq, harr⟩ := h b (.inLoop co :: k) cs
  cases e with
  | normal =>
    obtain ⟨e₂, a₂, w₂, hq₂, harr₂⟩ := hq b k cs
    exact ⟨e₂, a₂, w₂, hq₂, .of_steps (Steps.trans harr (.one step_inLoop)) harr₂⟩
  | exit id => exact ⟨_, a₁, w₁, hq, .pass (x := .inLoop co) rfl (fun _ _ => .inl (by simp)) harr⟩
  | goto l => exact ⟨_, a₁, w₁, hq, .pass (x := .inLoop co) rfl (fun _ _ => .inl (by simp)) harr⟩
  | ret => exact ⟨_, a₁, w₁, hq, .pass (x := .inLoop co) rfl (fun _ _ => .inl (by simp)) harr⟩
  | panic ch => exact ⟨_, a₁, w₁, hq, .pass (x := .inLoop co) rfl (fun _ _ => .inl (by simp)) harr⟩
  | outgrown => exact ⟨_, a₁, w₁, hq, .pass (x := .inLoop co) rfl (fun _ _ => .inl (by simp)) harr⟩
theorem LW.loop {co : Code} {Q : Exit → Act → World → Prop} {a : Act} {w : World} (h : LW P co Q a w) : (Code.loop co).wp P Q a w := by
  intro b k cs
  obtain ⟨e, a', w', hq, harr⟩ := h b k cs
  exact ⟨e, a', w', hq, .of_steps (.one step_loop) harr⟩

theorem evalCode_sound (hT : TTok P tt) {E : Env} (hE : E.B.tt = tt) (hnt : E.nt = nt) (hX : ∀ f args os Kr Kp, E.B.W f args os Kr Kp → Wp c.T P tt f args os Kr Kp) (hm : P.follows .mixedOrders = true) (hnp : gg.η.length = E.np) :
    ∀ (co : Code) (id : Nat) (s : St) (K : Ex → St → R) (a : Act) (w : World), evalCode E co id s K → At tt c nt gg os0 s a w → co.wp P (Post tt c nt gg os0 K) a w := by
  intro co
  induction co with
  | skip =>
    intro id s K a w h hat
    exact wp_skip ⟨s, hat, h⟩
  | region rid ops draw =>
    intro id s K a w h hat
    simp only [evalCode_region] at h
    cases draw with
    | true => exact evalDraw_sound hT hE hnt hX hm h hat
    | false => exact wp_region_list (evalOps_sound hT hE hnt hX _ _ _ _ _ h hat)
  | seq x y ihx ihy =>
    intro id s K a w h hat
    simp only [evalCode_seq] at h
    refine wp_seq (wp_mono (ihx id s _ a w h hat) fun e a' w' hq => ?_)
    cases e with
    | normal =>
      obtain ⟨s', hat', hk⟩ := hq
      exact ihy id s' K a' w' hk hat'
    | exit i => obtain ⟨s', hat', hk⟩ := hq; exact ⟨s', hat', hk⟩
    | ret => obtain ⟨s', hat', hk⟩ := hq; exact ⟨s', hat', hk⟩
    | panic ch => obtain ⟨v, hch, s', g', x, h1, h2, h3, h4, h5⟩ := hq; exact ⟨v, hch, s', g', x, h1, h2, h3, h4, h5⟩
    | goto l => exact hq.elim
    | outgrown => exact hq.elim
  | cond cc x y ihx ihy =>
    intro id s K a w h hat
    simp only [evalCode_cond] at h
    obtain ⟨g, hs, hg⟩ := hat
    have hc := hs.ev cc
    split at h
    · rename_i b hb
      rw [hb] at hc
      refine wp_cond hc.bool_inv ?_
      cases b with
      | true => exact ihx id s K a w h ⟨g, hs, hg⟩
      | false => exact ihy id s K a w h ⟨g, hs, hg⟩
    · cases h
  | block b co ih =>
    intro id s K a w h hat
    simp only [evalCode_block] at h
    refine wp_block (wp_mono (ih b s _ a w h hat) fun e a' w' hq => ?_)
    cases e with
    | normal => obtain ⟨s', hat', hk⟩ := hq; exact ⟨s', hat', hk⟩
    | exit i =>
      obtain ⟨s', hat', hk⟩ := hq
      simp only [Exit.inBlock]
      simp only [blockK] at hk
      cases hib : Nat.beq i b with
      | true =>
        have hib' := Nat.eq_of_beq_eq_true hib
        rw [if_pos hib']
        simp only [hib, cond_true] at hk
        exact ⟨s', hat', hk⟩
      | false =>
        have hne : i ≠ b := fun e => by subst e; simp at hib
        rw [if_neg hne]
        simp only [hib, cond_false] at hk
        exact ⟨s', hat', hk⟩
    | ret => obtain ⟨s', hat', hk⟩ := hq; exact ⟨s', hat', hk⟩
    | panic ch => obtain ⟨v, hch, s', g', x, h1, h2, h3, h4, h5⟩ := hq; exact ⟨v, hch, s', g', x, h1, h2, h3, h4, h5⟩
    | goto l => exact hq.elim
    | outgrown => exact hq.elim
  | loop co ih =>
    intro id s K a w h hat
    simp only [evalCode_loop, normK] at h
    split at h
    · rename_i s1 hn1
      rw [St.sq_eq] at h
      obtain ⟨h⟩ := h
      have key := h (fun s => ∀ a w, At tt c nt gg os0 s a w → LW P co (Post tt c nt gg os0 K) a w) fun s hs a w hat => by
        unfold roundP at hs
        refine LW.step (wp_mono (ih id s _ a w hs hat) fun e a' w' hq => ?_)
        cases e with
        | normal =>
          obtain ⟨s', hat', hk⟩ := hq
          simp only [seqK, normK] at hk
          split at hk
          · rename_i s0 hn
            rw [St.sq_eq] at hk
            exact hk a' w' (norm_sound hE hnp hn hat')
          · cases hk
        | exit i => obtain ⟨s', hat', hk⟩ := hq; exact ⟨s', hat', hk⟩
        | ret => obtain ⟨s', hat', hk⟩ := hq; exact ⟨s', hat', hk⟩
        | panic ch => obtain ⟨v, hch, s', g', x, h1, h2, h3, h4, h5⟩ := hq; exact ⟨v, hch, s', g', x, h1, h2, h3, h4, h5⟩
        | goto l => exact hq.elim
        | outgrown => exact hq.elim
      exact (key a w (norm_sound hE hnp hn1 hat)).loop
    · cases h
  | exit i =>
    intro id s K a w h hat
    exact wp_exit ⟨s, hat, h⟩
  | ret =>
    intro id s K a w h hat
    exact wp_ret ⟨s, hat, h⟩
  | _ => intros; rename_i h _; exact absurd h (fun h => h)

/-! ### Functions -/
theorem evalRes_sound (hT : TTok P tt) {E : Env} (hE : E.B.tt = tt) {a : Act} {s : St} (hs : RepSt tt c w g nt a s) (rs : List ResultVar) : ∀ (cs : List C), evalRes E rs s = some cs →
    ∃ vs : List Value, (rs.mapM (m := Sem) fun | .tmp t => pure (a.tmps.getD t Go.undef) | .cell b t => do loadVar t (← asAddr (a.tmps.getD b Go.undef))).run P w = .ok vs w ∧ vs.length = rs.length ∧ cs.length = rs.length ∧
      ∀ i, i < cs.length → RepC tt w (Now c w g s.objs.length) g s.objs (vs.getD i Go.undef) (cs.getD i .undef) := by
  subst hE
  induction rs with
  | nil =>
    intro cs h
    simp only [evalRes, Option.some.injEq] at h
    subst h
    exact ⟨[], rfl, rfl, rfl, fun i hi => by simp at hi⟩
  | cons rv r ih =>
    intro cs h
    cases rv with
    | tmp t =>
      simp only [evalRes] at h
      split at h
      · rename_i cs' hcs'
        cases h
        obtain ⟨vs, h1, h2, h3, h4⟩ := ih cs' hcs'
        refine ⟨a.tmps.getD t Go.undef :: vs, ?_, by simp [h2], by simp [h3], fun i hi => ?_⟩
        · simp only [List.mapM_cons, Sem.run_bind, Sem.run_pure, Result.andThen_ok, h1]
        · cases i with
          | zero => simpa using hs.tmp t
          | succ i => simpa using h4 i (by simpa using hi)
      · cases h
    | cell b T =>
      simp only [evalRes] at h
      split at h
      · rename_i o off ti href hti
        split at h
        · rename_i bs hbs
          obtain ⟨hle, h⟩ := bif_some' h
          split at h
          · rename_i c1 cs' hmk hcs'
            cases h
            obtain ⟨vs, h1, h2, h3, h4⟩ := ih cs' hcs'
            have hx := hs.tmp b
            rw [href] at hx
            generalize hav : a.tmps.getD b Go.undef = va at hx
            have hld := evalLoad_sound (P := P) hT rfl (E := E) (T := T) (s := s) (vx := va) (cx := .ref o off) (Kv := fun x => x = c1) hs.inv (by simp only [evalLoad, hti, hbs, hle, cond_true, hmk]) hx
            obtain ⟨v, cv, hr, hv, rfl⟩ := hld
            refine ⟨v :: vs, ?_, by simp [h2], by simp [h3], fun i hi => ?_⟩
            · cases hx with
              | ref _ _ bb hη =>
                have hrun : (loadVar T ⟨bb, off, none⟩).run P w = .ok v w := by simpa [Instr.loadAt, Instr.sureAddr] using hr
                have has : (asAddr (a.tmps.getD b Go.undef)).run P w = .ok ⟨bb, off, none⟩ w := by rw [hav]; rfl
                simp only [List.mapM_cons, Sem.run_bind, has, Sem.run_pure, Result.andThen_ok, hrun, h1]
            · cases i with
              | zero => simpa using hv
              | succ i => simpa using h4 i (by simpa using hi)
          · cases h
        · cases h
      · cases h
theorem argT_look : ∀ (i : Nat) (args : List C) (t : Nat), look t (argT i args) = if i ≤ t then args.getD (t - i) .undef else .undef
  | _, [], t => by simp [argT, look_nil]
  | i, x :: r, t => by
    simp only [argT, look_cons]
    cases h : Nat.beq i t with
    | true =>
      have := Nat.eq_of_beq_eq_true h
      subst this
      simp
    | false =>
      have hne : i ≠ t := fun e => by subst e; simp at h
      simp only [cond_false]
      rw [argT_look (i + 1) r t]
      by_cases h1 : i ≤ t
      · rw [if_pos h1, if_pos (by omega), show t - i = (t - (i + 1)) + 1 by omega]
        simp
      · rw [if_neg h1, if_neg (by omega)]

/-- What is handed back at a function's end. -/
theorem fin_sound {c : Ctx} {g : Gh} {os : List Ob} (hgl : g.η.length = os.length) {K : C → List Ob → R} {g' : Gh} {w' : World} {v : Value} {x : C} {os' : List Ob} (hI' : Inv tt c w' g' os') (hg : Later g os g' os') (hr : RepC tt w' (Now c w' g' os'.length) g' os' v x) (hf : finish os.length x os' K) :
    ∃ x' g'' os'', Inv tt c w' g'' os'' ∧ Later g os g'' os'' ∧ RepC tt w' (Now c w' g'' os''.length) g'' os'' v x' ∧ K x' os'' := by
  unfold finish at hf
  rw [sqN_eq] at hf
  generalize reach os' 300 (upto os.length 0 ++ x.refs) [] = ks at hf
  obtain ⟨hok, hf⟩ := bif_some hf
  rw [C.sq_eq, sqO_eq] at hf
  have hp := Pick.of hok
  obtain ⟨hI2, hr2⟩ := hI'.pickSame hp
  exact ⟨_, _, _, hI2, pick_grows hok hI'.len hgl hg, hr2 v x hr, hf⟩
/-- The end's results. -/
def resK (E : Env) (fn : Func) (n : Nat) (K : C → List Ob → R) (s : St) : R := bif Nat.beq fn.results.toList.length fn.resultTypes.toList.length then match evalRes E fn.results.toList s with
    | some cs => match argsOf E (bif E.own then 2 else 0) (zipT fn.resultTypes.toList cs) s.objs with
      | some (cs', os') => match cs' with
        | [c] => finish n c os' K
        | _ => finish n (.tuple cs') os' K
      | none => False
    | none => False else False
theorem done_sound (hT : TTok P tt) {E : Env} (hE : E.B.tt = tt) {fn : Func} {c : Ctx} {nt : Nat} {g : Gh} {os : List Ob} (hgl : g.η.length = os.length) {s : St} {a : Act} {w' : World} {K : C → List Ob → R} (hat : At tt c nt g os s a w') (hd : resK E fn os.length K s) :
    ∃ v, (results fn a.tmps).run P w' = .ok v w' ∧ ∃ x' g'' os'', Inv tt c w' g'' os'' ∧ Later g os g'' os'' ∧ RepC tt w' (Now c w' g'' os''.length) g'' os'' v x' ∧ K x' os'' := by
  unfold resK at hd
  obtain ⟨g', hs, hg⟩ := hat
  obtain ⟨hrl, hd⟩ := bif_some hd
  have hrl := Nat.eq_of_beq_eq_true hrl
  split at hd
  · rename_i cs hcs
    obtain ⟨vs', h1, h2, h3, h4⟩ := evalRes_sound (P := P) hT (E := E) hE hs fn.results.toList cs hcs
    split at hd
    · rename_i cs' os' hargs
      have hzl : (zipT fn.resultTypes.toList cs).length = cs.length := zipT_length _ _ (by omega)
      obtain ⟨g1, hs1, st1, hcl, hcr⟩ := argsOf_sound (how := bif E.own then 2 else 0) (by cases E.own <;> simp) (vs := vs') hs hargs (by rw [hzl]; omega) (fun i hi => by
        rw [zipT_getD _ _ _ (by omega)]
        exact h4 i (by rw [hzl] at hi; exact hi))
      have hg1 := hg.trans st1.later
      have hres : (results fn a.tmps).run P w' = .ok (if h : vs'.toArray.size = 1 then vs'.toArray[0] else .tuple vs'.toArray) w' := by
        unfold results
        rw [Array.mapM_eq_mapM_toList]
        simp only [Sem.run_bind, Sem.run_map, Sem.run_pure]
        generalize hM : Sem.run P (List.mapM _ fn.results.toList) w' = r
        have hr : r = .ok vs' w' := hM.symm.trans h1
        subst hr
        rfl
      have hlen : cs'.length = vs'.length := by rw [hcl, hzl]; omega
      split at hd
      · rename_i c1
        obtain ⟨v, rfl⟩ : ∃ v, vs' = [v] := by
          match vs', hlen with
          | [v], _ => exact ⟨v, rfl⟩
        refine ⟨v, by simpa using hres, ?_⟩
        have hr := hcr 0 (by simp)
        simp only [List.getD_cons_zero] at hr
        exact fin_sound hgl hs1.inv hg1 hr hd
      · rename_i hne
        have hne1 : vs'.toArray.size ≠ 1 := fun e => by
          have : cs'.length = 1 := by simpa [hlen] using e
          match cs', this with
          | [c1], _ => exact hne c1 rfl
        refine ⟨.tuple vs'.toArray, by rw [hres, dif_neg hne1], ?_⟩
        have hr : RepC tt w' (Now c w' g1 os'.length) g1 os' (.tuple vs'.toArray) (.tuple cs') := .tuple _ _ (by simp; omega) (fun i hi => by
          have := hcr i hi
          simpa [List.getD_eq_getElem?_getD, Array.getD_eq_getD_getElem?] using this)
        exact fin_sound hgl hs1.inv hg1 hr hd
    · cases hd
  · cases hd
/-- A function's body does what the evaluator says. -/
theorem Wp.of {T : Tabs} (hT : TTok P tt) {E : Env} (hE : E.B.tt = tt) (hX : ∀ f args os Kr Kp, E.B.W f args os Kr Kp → Wp T P tt f args os Kr Kp) (hm : P.follows .mixedOrders = true)
    {f : FuncId} {fn : Func} (hf : P.funcs[f]? = some fn) (hname : (fn.name == "runtime.NumGoroutine") = false) {args : List C} {os : List Ob} {Kr Kp : C → List Ob → R} (h : evalFn E fn args os Kr Kp) : Wp T P tt f args os Kr Kp := by
  unfold evalFn at h
  split at h
  · cases h
  rename_i body hbody
  refine ⟨fun args w => ?_, ?_⟩
  · have hne : ¬ fn.name = "runtime.NumGoroutine" := by simpa using hname
    simp [callFunc, hf, hne, hbody]
  suffices main : ∀ (c : Ctx) (g : Gh) (vs : List Value), c.T = T → c.ds = [] → Inv tt c c.w0 g os → vs.length = args.length →
      (∀ i, i < args.length → RepC tt c.w0 (Now c c.w0 g os.length) g os (vs.getD i Go.undef) (args.getD i .undef)) →
      Calls P f vs.toArray c.w0 fun e w' => ∃ v x g' os', Inv tt c w' g' os' ∧ Later g os g' os' ∧ RepC tt w' (Now c w' g' os'.length) g' os' v x ∧
        ((e = .returned v ∧ Kr x os') ∨ (e = .panicked [{ v, recovered := false }] ∧ Kp x os')) by
    intro c g vs hcT hI hvl hv
    exact (main { c with ds := [] } g vs hcT rfl (hI.withDs []) hvl hv).mono fun e w' ⟨v, x, g', os', h1, h2, h3, h4⟩ => ⟨v, x, g', os', h1.withDs c.ds, h2, h3, h4⟩
  intro c g vs hcT hds hI hvl hv
  · subst hcT
    let nt : Nat := bif Nat.ble fn.ntmps args.length then args.length else fn.ntmps
    have hntd : args.length + (fn.ntmps - args.length) = nt := by
      show _ = bif Nat.ble fn.ntmps args.length then args.length else fn.ntmps
      cases hb : Nat.ble fn.ntmps args.length with
      | true => have := Nat.le_of_ble_eq_true hb; simp; omega
      | false =>
        have : ¬ fn.ntmps ≤ args.length := fun h => by rw [Nat.ble_eq_true_of_le h] at hb; cases hb
        simp; omega
    refine calls_of_wp hf hbody (wp_mono (evalCode_sound (tt := tt) (c := c) (nt := nt) (gg := g) (os0 := os) hT (E := { E with np := os.length, nt := nt }) hE rfl hX hm hI.len body 0 _ _ _ c.w0 h ?_) ?_)
    · refine ⟨g, ⟨hI, hds.symm, ?_, fun t => ?_⟩, .refl _ _⟩
      · rw [← hntd]; simp [hvl]
      · rw [argT_look, if_pos (Nat.zero_le _), Nat.sub_zero]
        simp only [Array.getD_eq_getD_getElem?, List.getD_eq_getElem?_getD] at hv ⊢
        by_cases hlt : t < args.length
        · rw [Array.getElem?_append_left (by simp; omega)]
          have := hv t hlt
          simpa using this
        · rw [List.getElem?_eq_none (by omega)]
          exact .undef _
    · intro e a' w' hq
      cases e with
      | normal =>
        obtain ⟨s, hat, hk⟩ := hq
        obtain ⟨v, hr, x', g'', os'', a1, a2, a3, a4⟩ := done_sound (E := E) hT hE hI.len hat hk
        exact ⟨(hat.choose_spec.1.dfr).trans hds, v, hr, v, x', g'', os'', a1, a2, a3, .inl ⟨rfl, a4⟩⟩
      | ret =>
        obtain ⟨s, hat, hk⟩ := hq
        obtain ⟨v, hr, x', g'', os'', a1, a2, a3, a4⟩ := done_sound (E := E) hT hE hI.len hat hk
        exact ⟨(hat.choose_spec.1.dfr).trans hds, v, hr, v, x', g'', os'', a1, a2, a3, .inl ⟨rfl, a4⟩⟩
      | panic ch =>
        obtain ⟨v, rfl, s, g', x, b1, b2, b3, b4, b5⟩ := hq
        obtain ⟨x', g'', os'', a1, a2, a3, a4⟩ := fin_sound hI.len b1 b3 b4 b5
        exact ⟨b2.trans hds, v, x', g'', os'', a1, a2, a3, .inr ⟨rfl, a4⟩⟩
      | exit i => obtain ⟨s, hat, hk⟩ := hq; exact hk.elim
      | goto l => exact hq.elim
      | outgrown => exact hq.elim

end Go.Proofs.EN
/- A table of types, checked by the kernel. -/
namespace Go.Proofs.EN
open Go
set_option linter.unusedVariables false
set_option linter.unusedSimpArgs false
variable {tt : TypeId → Option TI} {P : Program}

def isZeroB : CK → Value → Bool
  | .bool, .bool b => !b
  | .int k, .int j n => decide (j = k) && decide (n = 0)
  | .str, .string s => s.data.toList.isEmpty
  | .list _, .slice none n c => Nat.beq n 0 && Nat.beq c 0
  | .iface, .nilIface => true
  | .other, v => v.oneCell'
  | _, _ => false
def zerosB : List CK → List Value → Bool
  | [], [] => true
  | k :: ks, v :: vs => isZeroB k v && zerosB ks vs
  | _, _ => false
def ckB : List CK → List CK → Bool
  | [], [] => true
  | k :: ks, j :: js => k.beq j && ckB ks js
  | _, _ => false
def fsB : List (Nat × TypeId) → List Field → Bool
  | [], [] => true
  | (o, T) :: r, f :: fs => Nat.beq f.offset o && (Nat.beq f.type T && fsB r fs)
  | _, _ => false
def ukB (P : Program) (cells : List CK) (d : TypeDesc) : UK → Bool
  | .bool => (match d with | .bool => true | _ => false) && ckB cells [.bool]
  | .int k => (match d with | .int j => decide (j = k) | _ => false) && ckB cells [.int k]
  | .str => (match d with | .string => true | _ => false) && ckB cells [.str]
  | .slice e => (match d with | .slice e' => Nat.beq e' e | _ => false) && ckB cells [.list e]
  | .struct fs => match d with
    | .struct fields => fsB fs fields.toList && fields.toList.all fun f => (P.info? f.type).isSome
    | _ => false
  | .ptr e => (match d with | .pointer e' => Nat.beq e' e | _ => false) && ckB cells [.other]
  | .func => (match d with | .func _ _ _ => true | _ => false) && ckB cells [.other]
  | .map k v => (match d with | .map k' v' => Nat.beq k' k && Nat.beq v' v | _ => false) && ckB cells [.other]
  | .iface => (match d with | .interface _ => true | _ => false) && ckB cells [.iface]
  | .tuple _ => match d with | .tuple _ => true | _ => false
/-- A struct of numbers, texts and bools may be compared. -/
def eqsB (P : Program) (T : TypeId) (ti : TI) : Bool := bif ti.uk.isAgg && scalKs ti.cells then (match eqKs P 8 T with | some ks => ckB ks ti.cells | none => false) && !P.eqGuardType P.depth T else true
def okT (P : Program) (T : TypeId) (ti : TI) : Bool :=
  match P.info? T, P.underlying T with
  | some info, some d => Nat.beq info.size ti.cells.length && (Nat.beq info.bytes ti.bytes && (ukB P ti.cells d ti.uk && match info.zero with
    | some zv => zerosB ti.cells zv.cells.toList && ((match zv with | .agg _ => ti.uk.isAgg | v => !ti.uk.isAgg && v.oneCell') && eqsB P T ti)
    | none => false))
  | _, _ => false

theorem ckB_eq : ∀ {a b : List CK}, ckB a b = true → a = b
  | [], [], _ => rfl
  | k :: ks, j :: js, h => by
    simp only [ckB, Bool.and_eq_true] at h
    have h1 : k = j := CK.beq_eq h.1
    rw [h1, ckB_eq h.2]
  | [], _ :: _, h => by simp [ckB] at h
  | _ :: _, [], h => by simp [ckB] at h
theorem fsB_eq : ∀ {a : List (Nat × TypeId)} {b : List Field}, fsB a b = true → b.map (fun f => (f.offset, f.type)) = a
  | [], [], _ => rfl
  | (o, T) :: r, f :: fs, h => by
    simp only [fsB, Bool.and_eq_true] at h
    have h1 := Nat.eq_of_beq_eq_true h.1
    have h2 := Nat.eq_of_beq_eq_true h.2.1
    simp [fsB_eq h.2.2, h1, h2]
  | [], _ :: _, h => by simp [fsB] at h
  | _ :: _, [], h => by simp [fsB] at h
theorem isZeroB_eq {k : CK} {v : Value} (h : isZeroB k v = true) : (k ≠ .other → v = zeroV k) ∧ v.oneCell' = true := by
  cases k with
  | other => exact ⟨fun h => absurd rfl h, by cases v <;> exact h⟩
  | bool => cases v <;> simp [isZeroB] at h; subst h; exact ⟨fun _ => rfl, rfl⟩
  | int k => cases v <;> simp [isZeroB] at h; obtain ⟨rfl, rfl⟩ := h; exact ⟨fun _ => rfl, rfl⟩
  | str =>
    cases v <;> simp [isZeroB] at h
    rename_i s
    refine ⟨fun _ => ?_, rfl⟩
    show Value.string s = .string ⟨#[]⟩
    congr 1
    cases s
    simp at h
    rw [h]
  | list e =>
    cases v <;> try simp [isZeroB] at h
    rename_i a n c
    cases a <;> simp [isZeroB] at h
    obtain ⟨rfl, rfl⟩ := h
    exact ⟨fun _ => rfl, rfl⟩
  | iface => cases v <;> simp [isZeroB] at h; exact ⟨fun _ => rfl, rfl⟩
theorem zerosB_at : ∀ {ks : List CK} {vs : List Value}, zerosB ks vs = true → vs.length = ks.length ∧ ∀ i k, ks[i]? = some k → (k ≠ .other → vs.getD i Go.undef = zeroV k) ∧ (vs.getD i Go.undef).oneCell' = true
  | [], [], _ => ⟨rfl, fun i k h => by simp at h⟩
  | k :: ks, v :: vs, h => by
    simp only [zerosB, Bool.and_eq_true] at h
    obtain ⟨h1, h2⟩ := zerosB_at h.2
    refine ⟨by simp [h1], fun i k' hk => ?_⟩
    cases i with
    | zero =>
      simp only [List.getElem?_cons_zero, Option.some.injEq] at hk
      subst hk
      simpa using isZeroB_eq h.1
    | succ i => simpa using h2 i k' (by simpa using hk)
  | [], _ :: _, h => by simp [zerosB] at h
  | _ :: _, [], h => by simp [zerosB] at h
theorem eqsB_sound {T : TypeId} {ti : TI} (h : eqsB P T ti = true) (h1 : ti.uk.isAgg = true) (h2 : scalKs ti.cells = true) : eqKs P 8 T = some ti.cells ∧ P.eqGuardType P.depth T = false := by
  unfold eqsB at h
  rw [h1, h2] at h
  simp only [Bool.and_true, cond_true, Bool.and_eq_true, Bool.not_eq_true'] at h
  obtain ⟨h3, h4⟩ := h
  split at h3
  · rename_i ks hk
    rw [hk, ckB_eq h3]
    exact ⟨rfl, h4⟩
  · cases h3
theorem okT_sound {T : TypeId} {ti : TI} (h : okT P T ti = true) : ∃ info, TIok P T ti info := by
  unfold okT at h
  split at h
  · rename_i info d hi hd
    simp only [Bool.and_eq_true] at h
    obtain ⟨h1, h2, h3, h4⟩ := h
    split at h4
    · rename_i zv hz
      simp only [Bool.and_eq_true] at h4
      obtain ⟨h5, h6⟩ := zerosB_at h4.1
      have hg : ∀ i, zv.cells.toList.getD i Go.undef = zv.cells.getD i Go.undef := fun i => by simp [List.getD_eq_getElem?_getD, Array.getD_eq_getD_getElem?]
      refine ⟨info, hi, Nat.eq_of_beq_eq_true h1, Nat.eq_of_beq_eq_true h2, ?_, ⟨zv, hz, by simpa using h5, fun i k hk => ?_⟩, fun ha zv' hz' => ?_, fun ha => ?_, eqsB_sound h4.2.2⟩
      · cases hu : ti.uk <;> rw [hu] at h3 <;> simp only [ukB, Bool.and_eq_true] at h3 <;> simp only [UK.ok]
        case bool => cases d <;> simp at h3; exact ⟨hd, ckB_eq h3⟩
        case int k => cases d <;> simp at h3; obtain ⟨rfl, h3⟩ := h3; exact ⟨hd, ckB_eq h3⟩
        case str => cases d <;> simp at h3; exact ⟨hd, ckB_eq h3⟩
        case slice e => cases d <;> simp at h3; obtain ⟨rfl, h3⟩ := h3; exact ⟨hd, ckB_eq h3⟩
        case struct fs =>
          cases d <;> simp only [Bool.false_eq_true] at h3
          rename_i fields
          simp only [Bool.and_eq_true, List.all_eq_true] at h3
          exact ⟨fields, hd, fsB_eq h3.1, h3.2⟩
        case ptr e => cases d <;> simp at h3; obtain ⟨rfl, h3⟩ := h3; exact ⟨hd, ckB_eq h3⟩
        case func => cases d <;> simp at h3; exact ⟨⟨_, _, _, hd⟩, ckB_eq h3⟩
        case map k v => cases d <;> simp at h3; obtain ⟨⟨rfl, rfl⟩, h3⟩ := h3; exact ⟨hd, ckB_eq h3⟩
        case iface => cases d <;> simp at h3; exact ⟨⟨_, hd⟩, ckB_eq h3⟩
        case tuple ts => cases d <;> simp at h3; exact ⟨_, hd⟩
      · have := h6 i k hk
        rwa [hg] at this
      · rw [hz] at hz'
        cases hz'
        have h7 := h4.2.1
        rw [ha] at h7
        cases zv <;> first | exact h7 | cases h7
      · have h7 := h4.2.1
        rw [ha] at h7
        cases zv with
        | agg vs => exact ⟨vs, hz⟩
        | _ => simp at h7
    · cases h4
  · cases h

/-! ### The table as a tree -/
inductive TTree where
  | leaf
  | node (k : Nat) (ti : TI) (l r : TTree)
def TTree.find : TTree → Nat → Option TI
  | .leaf, _ => none
  | .node k ti l r, n => bif Nat.beq n k then some ti else bif Nat.blt n k then l.find n else r.find n
def TTree.ok (P : Program) : TTree → Bool
  | .leaf => true
  | .node k ti l r => okT P k ti && (l.ok P && r.ok P)
inductive LTree (α : Type) where
  | leaf
  | node (k : Nat) (x : α) (l r : LTree α)
def LTree.find {α : Type} : LTree α → Nat → Option α
  | .leaf, _ => none
  | .node k x l r, n => bif Nat.beq n k then some x else bif Nat.blt n k then l.find n else r.find n
theorem TTree.sound {t : TTree} (h : t.ok P = true) : TTok P t.find := by
  intro T ti hf
  induction t with
  | leaf => cases hf
  | node k tk l r ihl ihr =>
    simp only [TTree.ok, Bool.and_eq_true] at h
    simp only [TTree.find] at hf
    cases hb : Nat.beq T k with
    | true =>
      have := Nat.eq_of_beq_eq_true hb
      subst this
      simp only [hb, cond_true, Option.some.injEq] at hf
      subst hf
      exact okT_sound h.1
    | false =>
      simp only [hb, cond_false] at hf
      cases hl : Nat.blt T k with
      | true =>
        simp only [hl, cond_true] at hf
        exact ihl h.2.1 hf
      | false =>
        simp only [hl, cond_false] at hf
        exact ihr h.2.2 hf


/-! ### Functions that hand back a value and do nothing else, by contracts of their own -/
theorem RepC.ren_data {w w' : World} {S S' : Nat → Prop} {g g' : Gh} {os os' : List Ob} (hS : ∀ b, S b → S' b ∧ w'.heap[b]? = w.heap[b]?) {v : Value} {x : C} (hx : x.ren (fun _ => none) = x) (h : RepC tt w S g os v x) : RepC tt w' S' g' os' v x := by
  have := h.ren (m := fun _ => none) hS (LaterM.none g os g' os')
  rwa [hx] at this
theorem Wp.ofPure {T : Tabs} {f : FuncId} {args : List C} {cv : C} {Kr Kp : C → List Ob → R} (henter : ∀ args w, (callFunc f args).run P w = .ok (.enter f args) w) (hn : ∀ i, i < args.length → ((args.getD i .undef).ren fun _ => none) = args.getD i .undef) (hcv : cv.ren (fun _ => none) = cv)
    (hc : ∀ (w : World) (S : Nat → Prop) (vs : List Value), (∀ b, S b → b < w.heap.size) → T.ok w → vs.length = args.length → (∀ i, i < args.length → RepC tt w S g0 [] (vs.getD i Go.undef) (args.getD i .undef)) →
      Calls P f vs.toArray w fun e w' => ∃ v, e = .returned v ∧ Kept (fun _ => False) w w' ∧ RepC tt w' (fun b => S b ∨ (w.heap.size ≤ b ∧ b < w'.heap.size)) g0 [] v cv) (hk : Kr cv []) : Wp T P tt f args [] Kr Kp := by
  refine ⟨henter, fun c g vs hcT hI hvl hv => ?_⟩
  subst hcT
  refine (hc c.w0 (Now c c.w0 g ([] : List Ob).length) vs (fun b hb => (hI.now_lt hb).1) hI.tab.1 hvl (fun i hi => (hv i hi).ren_data (fun b hb => ⟨hb, rfl⟩) (hn i hi))).mono ?_
  rintro e w' ⟨v, rfl, hkp, hr⟩
  have hch : Chg c c.w0 g [] w' g [] :=
    ⟨hI.len, .refl _ _, fun b hb => .inl hb, fun b ⟨o, ho, _⟩ => by simp at ho, fun b hb _ => hkp.block b hb (fun h => h), hkp.size, hkp.os, hkp.tape, hkp.output, fun o o' b h => by simp at h⟩
  refine ⟨v, cv, g, [], hch.inv hI fun o ob u h1 h2 => by simp at h1, .refl _ _, hr.ren_data (fun b hb => ⟨?_, rfl⟩) hcv, .inl ⟨rfl, hk⟩⟩
  rcases hb with hb | ⟨h1, h2⟩
  · exact (hch.now hI b hb).1
  · exact .inr ⟨.inl h1, h2, fun ⟨o, ho, _⟩ => by simp at ho⟩

end Go.Proofs.EN
