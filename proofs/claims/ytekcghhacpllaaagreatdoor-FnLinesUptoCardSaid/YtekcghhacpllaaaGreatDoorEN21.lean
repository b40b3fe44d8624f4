/- Contracts of functions of this program, by the evaluator EN. No conditions but those that each theorem states. -/
import Derived.Test.YtekcghhacpllaaaGreatDoorEN20
/- Operations that only yield a value. -/
namespace Go.Proofs.EN
open Go
set_option linter.unusedVariables false
set_option linter.unusedSimpArgs false
variable {tt : TypeId → Option TI} {P : Program} {c : Ctx} {w : World} {g : Gh} {os : List Ob} {S : Nat → Prop}

/-- It hands on one value, whatever is done with it. -/
def Para (f : (C → R) → R) : Prop := ∀ Kv, f Kv → ∃ c, Kv c ∧ ∀ Kv' : C → R, Kv' c → f Kv'
theorem Para.one (c : C) : Para fun Kv => Kv c := fun _ h => ⟨c, h, fun _ h => h⟩
theorem Para.no : Para fun _ => False := fun _ h => h.elim
theorem Para.and {p : Prop} {f : (C → R) → R} (hf : Para f) : Para fun Kv => p ∧ f Kv := fun Kv h => by
  obtain ⟨c, hc, hall⟩ := hf Kv h.2
  exact ⟨c, hc, fun Kv' hk => ⟨h.1, hall Kv' hk⟩⟩
theorem Para.bif {b : Bool} {f g : (C → R) → R} (hf : Para f) (hg : Para g) : Para fun Kv => bif b then f Kv else g Kv := by
  cases b
  · exact hg
  · exact hf
theorem Para.bsel {b : Bool} {f g : (C → R) → R} (hf : Para f) (hg : Para g) : Para fun Kv => bsel b (f Kv) (g Kv) := by
  cases b
  · exact hg
  · exact hf

theorem evalBin_para (E : Env) (op : BinOp) (T : TypeId) (x y : C) : Para (evalBin E op T x y) := by
  unfold evalBin
  split
  · refine .bif ?_ .no
    split
    · exact .and (.one _)
    · exact .and (.one _)
    · split
      · exact .one _
      · exact .no
  · split
    · exact .and (.one _)
    · split
      · exact .one _
      · exact .no
  · split
    · split
      · exact .one _
      · exact .one _
      · exact .no
    · exact .no
  · split
    · refine .bif ?_ .no
      split
      · split
        · exact .one _
        · exact .one _
        · exact .no
      · exact .no
    · exact .no
  · exact .no
theorem evalBin2_para (E : Env) (op : BinOp) (T : TypeId) (o : Operand) (x y : C) : Para (evalBin2 E op T o x y) := by
  unfold evalBin2
  refine .bif ?_ (evalBin_para _ _ _ _ _)
  split
  · unfold evalNil
    split
    · exact .one _
    · exact .one _
    · exact .no
  · exact .no
theorem evalConv_para (E : Env) (a b : TypeId) (x : C) (s : St) : Para (evalConv E a b x s) := by
  unfold evalConv
  split
  · split
    · exact .one _
    · exact .no
  · split
    · exact .one _
    · exact .no
  · split
    · split
      · exact .one _
      · exact .no
    · exact .no
  · exact .no
theorem evalLoad_para (E : Env) (T : TypeId) (x : C) (s : St) : Para (evalLoad E T x s) := by
  unfold evalLoad
  split
  · exact .no
  · split
    · split
      · refine .bif ?_ .no
        split
        · exact .one _
        · exact .no
      · exact .no
    · refine .bif ?_ .no
      split
      · exact .one _
      · exact .no
    · split
      · split
        · refine .bif (.and ?_) .no
          split
          · exact .one _
          · exact .no
        · exact .no
      · split
        · refine .bif (.and ?_) .no
          split
          · exact .one _
          · exact .no
        · exact .no
      · exact .no
    · split
      · split
        · refine .bif (.and ?_) .no
          split
          · exact .one _
          · exact .no
        · exact .no
      · split
        · refine .bif (.and ?_) .no
          split
          · exact .one _
          · exact .no
        · exact .no
      · exact .no
    · exact .no
theorem evalSlice_para (E : Env) (T : TypeId) (x : C) (lo hi mx : Option C) (s : St) : Para (evalSlice E T x lo hi mx s) := by
  unfold evalSlice
  split
  · split
    · split
      · split
        · exact .one _
        · exact .no
      · exact .no
    · exact .no
  · split
    · split
      · split
        · exact .and (.one _)
        · exact .no
      · exact .no
    · split
      · split
        · split
          · exact .and (.one _)
          · exact .no
        · exact .no
      · split
        · split
          · exact .and (.one _)
          · exact .no
        · exact .no
    · exact .no
theorem evalIndexAddr_para (E : Env) (T : TypeId) (x i : C) (s : St) : Para (evalIndexAddr E T x i s) := by
  unfold evalIndexAddr
  split
  · split
    · split
      · refine .bif (.and ?_) .no
        split
        · exact .one _
        · exact .one _
        · exact .one _
        · exact .one _
      · split
        · split
          · exact .bif (.and (.one _)) .no
          · exact .no
        · exact .no
    · exact .no
  · exact .no

theorem valOp_para (E : Env) (o : Oper) (s : St) : Para (valOp E o s) := by
  unfold valOp
  split
  · exact .one _
  · exact .one _
  · split
    · exact .bsel (.one _) (.one _)
    · exact .no
  · exact evalLoad_para _ _ _ _
  · split
    · exact .one _
    · exact .one _
    · exact .one _
    · exact .one _
    · exact .no
  · exact evalBin2_para _ _ _ _ _ _
  · split
    · exact .one _
    · exact .one _
    · exact .no
  · exact evalConv_para _ _ _ _ _
  · split
    · split
      · refine .bif ?_ .no
        split
        · split
          · exact .one _
          · exact .one _
        · exact .no
      · exact .no
    · exact .no
  · split
    · exact .one _
    · exact .bif (.one _) .no
    · exact .one _
    · exact .no
  · exact evalSlice_para _ _ _ _ _ _ _
  · split
    · split
      · split
        · refine .bif ?_ .no
          split
          · exact .one _
          · exact .one _
          · exact .one _
          · exact .one _
          · exact .no
        · exact .no
      · exact .no
    · exact .no
  · split
    · split
      · split
        · refine .bif ?_ .no
          split
          · exact .one _
          · exact .no
        · exact .no
      · exact .no
    · exact .no
  · exact evalIndexAddr_para _ _ _ _ _
  · split
    · exact .and (.one _)
    · exact .no
  · split
    · split
      · exact .one _
      · exact .no
    · exact .no
  · split
    · split
      · split
        · exact .one _
        · exact .no
      · exact .no
    · split
      · refine .bif ?_ .no
        split
        · simp only [sqL_eq]
          intro Kv h
          obtain ⟨c', h1, h2⟩ := h
          exact ⟨c', h2, fun Kv' hk => ⟨c', h1, hk⟩⟩
        · exact .no
      · exact .no
    · exact .no
  · exact .no

/-- What it yields hangs on what it looks at, and on the objects. -/
theorem valOp_congr (E : Env) (o : Oper) {s s' : St} (ho : s'.objs = s.objs) (he : ∀ x ∈ o.op.operands, s'.ev x = s.ev x) (Kv : C → R) : valOp E o s' Kv = valOp E o s Kv := by
  have oL : ∀ T x K, evalLoad E T x s' K = evalLoad E T x s K := fun T x K => by simp only [evalLoad, ho]
  have oC : ∀ T U x K, evalConv E T U x s' K = evalConv E T U x s K := fun T U x K => by simp only [evalConv, ho]
  have oS : ∀ T x l h m K, evalSlice E T x l h m s' K = evalSlice E T x l h m s K := fun T x l h m K => by simp only [evalSlice, ho]
  have oI : ∀ T x i K, evalIndexAddr E T x i s' K = evalIndexAddr E T x i s K := fun T x i K => by simp only [evalIndexAddr, ho]
  have mp : ∀ y : Option Operand, (∀ x, y = some x → s'.ev x = s.ev x) → y.map s'.ev = y.map s.ev := fun y h => by
    cases y with
    | none => rfl
    | some x => simp [h x rfl]
  cases hop : o.op <;> simp only [valOp, hop] <;> rw [hop] at he <;> simp only [Op.operands] at he
  case move x => rw [he x (by simp)]
  case assign x => rw [he x (by simp)]
  case pick x y z => rw [he x (by simp), he y (by simp), he z (by simp)]
  case load T x => rw [he x (by simp), oL]
  case nilCheck x => rw [he x (by simp)]
  case binOp op T x y U => rw [he x (by simp), he y (by simp)]
  case unOp op T x => rw [he x (by simp)]
  case convert a b x => rw [he x (by simp), oC]
  case makeInterface T x => rw [he x (by simp)]
  case buildSlice T n ps =>
    have hp : ∀ p ∈ ps.toList, s'.ev p.2 = s.ev p.2 := fun p hp => he p.2 (by simp; exact ⟨p.1, by simpa using hp⟩)
    have h1 : (ps.toList.map fun p => (p.1, s'.ev p.2)) = ps.toList.map fun p => (p.1, s.ev p.2) := List.map_congr_left fun p h => by rw [hp p h]
    have h2 : (ps.toList.all fun p => (cellsC (s'.ev p.2)).all C.one) = ps.toList.all fun p => (cellsC (s.ev p.2)).all C.one := by
      rw [Bool.eq_iff_iff]
      simp only [List.all_eq_true (l := ps.toList)]
      exact ⟨fun h x hx => by rw [← hp x hx]; exact h x hx, fun h x hx => by rw [hp x hx]; exact h x hx⟩
    have h3 : (ps.toList.all fun p => noRow (s'.ev p.2)) = ps.toList.all fun p => noRow (s.ev p.2) := by
      rw [Bool.eq_iff_iff]
      simp only [List.all_eq_true (l := ps.toList)]
      exact ⟨fun h x hx => by rw [← hp x hx]; exact h x hx, fun h x hx => by rw [hp x hx]; exact h x hx⟩
    rw [h1, h2, h3, ho]
  case slice T x lo hi mx =>
    rw [he x (by simp), oS, mp lo (fun y h => he y (by subst h; simp)), mp hi (fun y h => he y (by subst h; simp)), mp mx (fun y h => he y (by subst h; simp))]
  case fieldAddr T x f => rw [he x (by simp)]
  case field T x f => rw [he x (by simp)]
  case indexAddr T x i => rw [he x (by simp), he i (by simp), oI]
  case index T x i => rw [he x (by simp), he i (by simp)]
  case extract t i => rw [he t (by simp)]
  case call cc =>
    have ha : ∀ x ∈ cc.args.toList, s'.ev x = s.ev x := fun x hx => he x (by simp [Call.operands]; exact .inr (by simpa using hx))
    split
    · split
      · rename_i T x _ hx
        rw [ha x (by rw [hx]; simp), ho]
      · rfl
    · rename_i f hf
      have hm : cc.args.toList.map s'.ev = cc.args.toList.map s.ev := List.map_congr_left ha
      have hn : (cc.args.toList.all fun x => noRow (s'.ev x)) = (cc.args.toList.all fun x => noRow (s.ev x)) := by
        rw [Bool.eq_iff_iff]
        simp only [List.all_eq_true]
        exact ⟨fun h x hx => by rw [← ha x hx]; exact h x hx, fun h x hx => by rw [ha x hx]; exact h x hx⟩
      rw [he f (by simp [Call.operands, hf]), hm, hn, ho]
    · rfl

/-! ### In a world -/
def isRow : C → Bool
  | .row _ => true
  | _ => false
theorem toD_noRow {k : CK} {x : C} {os os' : List Ob} {d : D} (h : toD k x os = some (d, os')) (hx : isRow x = false) : os' = os := by
  have one : ∀ {b : Bool} {d0 : D} {o0 : List Ob}, (bif b then some (d0, o0) else none) = some (d, os') → os' = o0 := by
    intro b d0 o0 h
    cases b with
    | true => simp only [cond_true, Option.some.injEq, Prod.mk.injEq] at h; exact h.2.symm
    | false => simp at h
  unfold toD at h
  split at h <;> first
    | (simp only [Option.some.injEq, Prod.mk.injEq] at h; exact h.2.symm)
    | exact one h
    | cases h
    | cases hx
theorem toDs_noRow : ∀ {ks : List CK} {xs : List C} {os os' : List Ob} {ds : List D}, toDs ks xs os = some (ds, os') → (∀ x ∈ xs, isRow x = false) → os' = os
  | [], [], os, os', ds, h, _ => by
    simp only [toDs, Option.some.injEq, Prod.mk.injEq] at h
    exact h.2.symm
  | k :: ks, x :: xs, os, os', ds, h, hx => by
    simp only [toDs] at h
    split at h
    · rename_i d os1 h1
      split at h
      · rename_i ds2 os2 h2
        simp only [Option.some.injEq, Prod.mk.injEq] at h
        obtain ⟨_, rfl⟩ := h
        have e1 := toD_noRow h1 (hx x (by simp))
        subst e1
        exact toDs_noRow h2 fun y hy => hx y (by simp [hy])
      · cases h
    · cases h
  | [], _ :: _, _, _, _, h, _ => by simp [toDs] at h
  | _ :: _, [], _, _, _, h, _ => by simp [toDs] at h
theorem noRow_cells {x : C} (h : noRow x = true) : ∀ y ∈ cellsC x, isRow y = false := by
  cases x with
  | agg cs =>
    intro y hy
    have := List.all_eq_true.1 h y hy
    cases y <;> first | rfl | cases this
  | row o => cases h
  | _ => intro y hy; simp only [cellsC, List.mem_singleton] at hy; subst hy; rfl
theorem argsOf_noRow {E : Env} : ∀ {targs : List (TypeId × C)} {os os' : List Ob} {cs : List C}, argsOf E 0 targs os = some (cs, os') → (∀ p ∈ targs, noRow p.2 = true) → os' = os
  | [], os, os', cs, h, _ => by
    simp only [argsOf_nil, Option.some.injEq, Prod.mk.injEq] at h
    exact h.2.symm
  | (T, x) :: r, os, os', cs, h, hn => by
    simp only [argsOf_cons] at h
    split at h
    · cases h
    · rename_i ti hti
      split at h
      · rename_i ds os1 hd
        split at h
        · rename_i c' cs2 os2 hmk hrest
          simp only [Option.some.injEq, Prod.mk.injEq] at h
          obtain ⟨_, rfl⟩ := h
          unfold argCs at hd
          obtain ⟨_, hd⟩ := bif_some' hd
          simp only at hd
          split at hd
          · rename_i ds' os1' hd'
            cases hd
            have e1 := toDs_noRow hd' (noRow_cells (hn (T, x) (by simp)))
            subst e1
            exact argsOf_noRow hrest fun p hp => hn p (by simp [hp])
          · cases hd
        · cases h
      · obtain ⟨_, h'⟩ := bif_none h
        clear h
        split at h'
        · rename_i cs2 os2 hrest
          simp only [Option.some.injEq, Prod.mk.injEq] at h'
          obtain ⟨_, rfl⟩ := h'
          exact argsOf_noRow hrest fun p hp => hn p (by simp [hp])
        · cases h'
theorem absorb_noRow {k : CK} {x : C} {os os' : List Ob} {d : D} (h : absorb tt (.lv 0) k x os = some (d, os')) (hx : isRow x = false) : os' = os := by
  unfold absorb at h
  exact toD_noRow (by simpa [Md.isZ] using h) hx
theorem absorbs_noRow : ∀ {ks : List CK} {xs : List C} {os os' : List Ob} {ds : List D}, absorbs tt (.lv 0) ks xs os = some (ds, os') → (∀ x ∈ xs, isRow x = false) → os' = os
  | [], [], os, os', ds, h, _ => by
    simp only [absorbs, Option.some.injEq, Prod.mk.injEq] at h
    exact h.2.symm
  | k :: ks, x :: xs, os, os', ds, h, hx => by
    simp only [absorbs] at h
    split at h
    · rename_i d os1 h1
      split at h
      · rename_i ds2 os2 h2
        simp only [Option.some.injEq, Prod.mk.injEq] at h
        obtain ⟨_, rfl⟩ := h
        have e1 := absorb_noRow h1 (hx x (by simp))
        subst e1
        exact absorbs_noRow h2 fun y hy => hx y (by simp [hy])
      · cases h
    · cases h
  | [], _ :: _, _, _, _, h, _ => by simp [absorbs] at h
  | _ :: _, [], _, _, _, h, _ => by simp [absorbs] at h
theorem putParts_noRow {ks : List CK} : ∀ {cps : List (Nat × C)} {os os' : List Ob} {j : Nat} {xs : List (List D)}, putParts tt (.lv 0) ks cps os j = some (xs, os') → (∀ p ∈ cps, noRow p.2 = true) → os' = os
  | [], os, os', j, xs, h, _ => by
    simp only [putParts, Option.some.injEq, Prod.mk.injEq] at h
    exact h.2.symm
  | (i, x) :: r, os, os', j, xs, h, hn => by
    simp only [putParts] at h
    cases hij : Nat.beq i j with
    | false => simp [hij] at h
    | true =>
      simp only [hij, cond_true] at h
      split at h
      · rename_i ds os1 h1
        split at h
        · rename_i xs2 os2 h2
          simp only [Option.some.injEq, Prod.mk.injEq] at h
          obtain ⟨_, rfl⟩ := h
          have e1 := absorbs_noRow h1 (noRow_cells (hn (i, x) (by simp)))
          subst e1
          exact putParts_noRow h2 fun p hp => hn p (by simp [hp])
        · cases h
      · cases h
theorem renL_same {m : Nat → Option Nat} : ∀ {cs : List C}, (∀ i, i < cs.length → (cs.getD i .undef).ren m = cs.getD i .undef) → renL m cs = cs
  | [], _ => rfl
  | c :: r, h => by
    have h0 := h 0 (by simp)
    simp only [List.getD_cons_zero] at h0
    simp only [renL, h0]
    rw [renL_same fun i hi => by simpa using h (i + 1) (by simpa using hi)]
theorem RepC.ren_nil {m : Nat → Option Nat} {v : Value} {x : C} (hη : g.η = []) (h : RepC tt w S g os v x) : x.ren m = x := by
  induction h with
  | undef v => rfl
  | unw => rfl
  | d v x h => rfl
  | cap0 a => rfl
  | full a T xs n hn h => rfl
  | row v o ho h h1 => rw [hη] at ho; simp at ho
  | nst v e o ver i off ho h h1 => rw [hη] at ho; simp at ho
  | nsl v e o ver i off lo n ho h h1 => rw [hη] at ho; simp at ho
  | ref o off b h => rw [hη] at h; simp at h
  | lp ks ds off b o2 vs hSb hf hc hr => rfl
  | rp o i off b p ho h => rw [hη] at ho; simp at ho
  | np e o ver i off j f b p ho h => rw [hη] at ho; simp at ho
  | func f caps vs hl _ ih => simp only [C.ren]; rw [renL_same ih]
  | nilF => rfl
  | zed v h => rfl
  | agg cs vs hl _ ih => simp only [C.ren]; rw [renL_same ih]
  | tuple cs vs hl _ ih => simp only [C.ren]; rw [renL_same ih]
  | mp o b h => rw [hη] at h; simp at h
theorem zipT_mem : ∀ {ts : List TypeId} {cs : List C} {p : TypeId × C}, p ∈ zipT ts cs → p.2 ∈ cs
  | [], _, _, h => by simp [zipT] at h
  | _ :: _, [], _, h => by simp [zipT] at h
  | t :: ts, c :: cs, p, h => by
    simp only [zipT, List.mem_cons] at h
    rcases h with rfl | h
    · simp
    · exact List.mem_cons_of_mem _ (zipT_mem h)

theorem RepSt.grown {nt : Nat} {a : Act} {s : St} (hs : RepSt tt c w g nt a s) {w' : World} (hk : Kept (fun _ => False) w w') : RepSt tt c w' g nt a s ∧ Stp c w g s.objs w' g s.objs := by
  have hc : Chg c w g s.objs w' g s.objs :=
    ⟨hs.inv.len, .refl _ _, fun b hb => .inl hb, fun b ⟨o, ho, h⟩ => Nat.lt_of_lt_of_le (hs.inv.own o b ho h).2 hk.size, fun b hb _ => hk.block b hb (fun h => h), hk.size, hk.os, hk.tape, hk.output, hs.inv.dj⟩
  refine ⟨?_, hc.stp hs.inv⟩
  have := hs.chg hc fun o ob v h1 h2 => .inl ⟨h1, (List.getElem?_eq_some_iff.1 h2).1, rfl, fun b hb => ⟨hb, hk.block b (hs.inv.own o b (ob_lt h1) hb).2 (fun h => h)⟩⟩
  exact this

theorem pureCall_sound {E : Env} (hX : ∀ f args os Kr Kp, E.B.W f args os Kr Kp → Wp c.T P tt f args os Kr Kp) {f : FuncId} {targs : List (TypeId × C)} {caps : List C} {nt : Nat} {a : Act} {s : St} {Kv : C → R} (hs : RepSt tt c w g nt a s)
    {vs us : List Value} (hvl : vs.length = targs.length) (hv : ∀ i, i < targs.length → RepC tt w (Now c w g s.objs.length) g s.objs (vs.getD i Go.undef) (targs.getD i (0, .undef)).2) (hn : ∀ p ∈ targs, noRow p.2 = true)
    (hul : us.length = caps.length) (hu : ∀ i, i < caps.length → RepC tt w (Now c w g s.objs.length) g s.objs (us.getD i Go.undef) (caps.getD i .undef))
    {cs : List C} {os' : List Ob} {cv : C} (hargs : argsOf E 0 targs s.objs = some (cs, os')) (hP : PureW (E.B.W f) ((cs ++ caps).map (C.ren fun _ => none)) cv) (h : Kv cv) {o : Oper}
    (hrun : (execOp a.eval o).run P w = (callFunc f (vs ++ us).toArray).run P w) : OpWp tt P c g s.objs nt a w o (fun cv s' => s' = s ∧ Kv cv) (fun _ _ => False) := by
  have e1 := argsOf_noRow hargs hn
  subst e1
  obtain ⟨g1, hs1, st1, hcl, hcr⟩ := argsOf_sound (how := 0) (by omega) hs hargs hvl hv
  have hI : Inv tt c w g1 s.objs := hs1.inv
  have hC := hX _ _ _ _ _ (hP (fun x os' => x = cv ∧ os' = []) (fun _ _ => False) ⟨rfl, rfl⟩)
  have hp : Pick [] s.objs.length := ⟨rfl, fun o ho => by cases ho⟩
  let c1 : Ctx := { T := c.T, S0 := Now c w g1 s.objs.length, X := Tracked (pickG [] g1) ([] : List Nat).length, w0 := w }
  have noT : ∀ b, ¬ Tracked (pickG [] g1) ([] : List Nat).length b := fun b ⟨o, ho, _⟩ => by simp at ho
  have hI1 : Inv tt c1 w (pickG [] g1) [] :=
    ⟨rfl, fun o ob v h => by simp at h, fun o o' b h => by simp at h, fun o b h => by simp at h, Kept.refl _ _, fun b hb => ⟨(hI.now_lt hb).1, noT b⟩, hI.tabNow.1, hI.tabNow.2⟩
  intro next Q hnx hpn
  unfold Oper.wp
  rw [hrun, hC.enters]
  refine (hC.calls c1 (pickG [] g1) (vs ++ us) rfl hI1 (by simp [hvl, hcl, hul]) (fun i hi => ?_)).mono ?_
  · rw [List.length_map, List.length_append] at hi
    have e : ((cs ++ caps).map (C.ren fun _ => none)).getD i .undef = ((cs ++ caps).getD i .undef).ren fun _ => none := by
      simp only [List.getD_eq_getElem?_getD, List.getElem?_map]
      cases (cs ++ caps)[i]? <;> rfl
    rw [e]
    have hval : RepC tt w (Now c w g1 s.objs.length) g1 s.objs ((vs ++ us).getD i Go.undef) ((cs ++ caps).getD i .undef) := by
      simp only [List.getD_eq_getElem?_getD] at hcr hu ⊢
      by_cases hlt : i < cs.length
      · rw [List.getElem?_append_left (by omega), List.getElem?_append_left hlt]
        exact hcr i hlt
      · rw [List.getElem?_append_right (by omega), List.getElem?_append_right (by omega)]
        have := st1.rep (hu (i - cs.length) (by omega))
        rwa [show i - vs.length = i - cs.length by omega]
    exact hval.ren' (fun b hb => .inl hb) (LaterM.none _ _ _ _)
  · rintro e w' ⟨v, x, g', os2, hI', hg, hr, hc⟩
    rcases hc with ⟨rfl, hx, ho⟩ | ⟨rfl, hf⟩
    · subst hx ho
      obtain ⟨hB, hLM, hN⟩ := hI.back hp (c1 := c1) rfl rfl hI' hg (fun hLM hN j i ob u hm h1 => by simp at h1)
      have e2 : setObs (backM [] s.objs.length) s.objs [] [] = s.objs := by simp [setObs]
      have hnil : g'.η = [] := List.eq_nil_of_length_eq_zero (by have := hI'.len; simpa using this)
      have hr2 := hr.ren' (hN fun b hb => hb) hLM
      rw [hr.ren_nil hnil, e2] at hr2
      have hB1 := hB.inv
      have hB2 := hB.stp
      rw [e2] at hB1 hB2
      exact hnx v w' ⟨x, s, _, ⟨hB1, hs.dfr, hs.len, fun i => hB2.rep (hs1.tmp i)⟩, st1.trans hB2, hr2, rfl, h⟩
    · exact hf.elim

end Go.Proofs.EN
/- Operations that only yield a value, in a world. -/
namespace Go.Proofs.EN
open Go
set_option linter.unusedVariables false
set_option linter.unusedSimpArgs false
variable {tt : TypeId → Option TI} {P : Program} {c : Ctx} {w : World} {g : Gh} {os : List Ob} {S : Nat → Prop}

theorem RepW.lv0 {md : Md} {v : Value} {d : D} {φ : Nat → Prop} (h : RepW tt w S md v d φ) : md = .lv 0 → Rep tt w S v d := by
  cases h with
  | froz v d φ h => exact fun _ => h
  | sc md v d φ h hs => exact fun _ => h
  | zero md T a φ => exact fun _ => .nil T a 0
  | list md T ti xs cap b φ vs φs => intro e; cases md <;> cases e
/-- A slice of plain data, made in a region that draws its order. -/
theorem op_buildFull (hT : TTok P tt) {T e : TypeId} {ks : List CK} {by' n : Nat} {ti : TI} {ps : Array (Nat × Operand)} {nt : Nat} {a : Act} {s : St} {xs : List (List D)} (hs : RepSt tt c w g nt a s)
    (ht : tt T = some ⟨.slice e, ks, by'⟩) (hte : tt e = some ti) (hd : dataKs ti.cells = true) (h0 : 0 < ti.cells.length) (hn : ps.toList.length = n) (hn2 : n * ti.cells.length ≤ 4096) (hone : ∀ p ∈ ps.toList, (cellsC (s.ev p.2)).all C.one = true)
    (hp : putParts tt (.lv 0) ti.cells (ps.toList.map fun p => (p.1, s.ev p.2)) s.objs 0 = some (xs, s.objs)) :
    ∃ v w' g', (Instr.buildSlice T n (ps.map fun (i, x) => (i, a.eval x))).run P w = .ok v w' ∧ RepSt tt c w' g' nt a s ∧ Stp c w g s.objs w' g' s.objs ∧ (xs = [] → RepC tt w' (Now c w' g' s.objs.length) g' s.objs v .cap0) ∧ RepC tt w' (Now c w' g' s.objs.length) g' s.objs v (.full e xs) := by
  obtain ⟨info, hi⟩ := hT T _ ht
  obtain ⟨ie, hie⟩ := hT e _ hte
  obtain ⟨zv, hz, hsz, hzc⟩ := hie.zero
  have hu : P.underlying T = some (.slice e) := hi.uk.1
  let zs : Array Value := (Array.range (n * ti.cells.length)).map ((if n * ti.cells.length = 0 then #[] else zv.cells)[· % (if n * ti.cells.length = 0 then #[] else zv.cells).size]!)
  have hzs : zs.size = n * ti.cells.length := by simp [zs]
  obtain ⟨g1, ψ, cs', hs1, st1, hl, hol, hkd, _, hfill, hcs, _, hP⟩ := putParts_sound (j := 0) (cs := zs) h0 hs hp (vps := ps.toList.map fun p => (p.1, a.eval p.2)) (by simp)
    (fun i hi' => by
      have hi2 : i < ps.toList.length := by simpa using hi'
      simp only [List.getD_eq_getElem?_getD, List.getElem?_map, List.getElem?_eq_getElem hi2, Option.map_some, Option.getD_some]
      exact ⟨trivial, hs.ev _⟩)
    (fun i hi' => by
      have hi2 : i < ps.toList.length := by simpa using hi'
      simp only [List.getD_eq_getElem?_getD, List.getElem?_map, List.getElem?_eq_getElem hi2, Option.map_some, Option.getD_some]
      exact hone _ (List.getElem_mem hi2))
    (by rw [hzs, List.length_map, hn, Nat.zero_add]; exact Nat.le_refl _)
  have hxn : xs.length = n := by rw [hl, List.length_map, hn]
  have hnb : n ≤ n * ti.cells.length := Nat.le_mul_of_pos_right n h0
  have hrun : (Instr.buildSlice T n (ps.map fun (i, x) => (i, a.eval x))).run P w = .ok (.slice (some ⟨w.heap.size, 0, none⟩) n n) (w.alloc (.cells cs' e)) := by
    have hsize : (sizeOf e).run P w = .ok ti.cells.length w := by simp [sizeOf, typeInfo, hie.inf, hie.size]
    have hz' : (zeroValue e).run P w = .ok zv w := by simp [zeroValue, typeInfo, hie.inf, hz]
    have hfill' : Instr.fill (fun i => some (i * ti.cells.length, ti.cells.length)) zs (ps.map fun (i, x) => (i, a.eval x)).toList = some cs' := by simpa using hfill
    have hbig : ¬ (n * ti.cells.length > 2 ^ 24) := by omega
    simp only [Instr.buildSlice, Sem.run_bind, run_underlying hu, Result.andThen_ok, hsize, if_neg hbig, Sem.run_pure]
    by_cases hn0 : n * ti.cells.length = 0
    · simp only [zs, if_pos hn0] at hfill'
      simp only [if_pos hn0, Sem.run_pure, Result.andThen_ok, hfill', Sem.run_bind, newRow]
      simp
    · simp only [zs, if_neg hn0] at hfill'
      simp only [if_neg hn0, Sem.run_bind, hz', Sem.run_pure, Result.andThen_ok, hfill', newRow]
      simp
  have hheap : ∀ b, b < w.heap.size → (w.alloc (.cells cs' e)).heap[b]? = w.heap[b]? := fun b hb => heap_alloc_old w _ b hb
  have hk : Kept (fun _ => False) w (w.alloc (.cells cs' e)) := ⟨rfl, rfl, rfl, by simp, fun b hb _ => hheap b hb⟩
  have hs1' : RepSt tt c w g1 nt a s := hs1
  obtain ⟨hs2, st2⟩ := hs1'.grown hk
  have hnew : Now c (w.alloc (.cells cs' e)) g1 s.objs.length w.heap.size := by
    refine .inr ⟨.inl hs1'.inv.kept.size, by simp, fun ⟨o, ho, h⟩ => ?_⟩
    have := (hs1'.inv.own o _ ho h).2
    omega
  have hcs' : cs'.size = n * ti.cells.length := by rw [hcs, hzs]
  refine ⟨_, _, g1, hrun, hs2, st1.trans st2, fun hnil => ?_, ?_⟩
  · subst hnil
    have : n = 0 := by simpa using hxn.symm
    subst this
    exact .cap0 _
  · refine .full _ e xs n hxn.symm ?_
    rw [← hxn]
    refine .list e ti _ _ _ w.heap.size 0 (fun i j => cs'.getD (i * ti.cells.length + j) Go.undef) hte hd h0 (Nat.le_refl _) (by unfold big; omega) hP.fit (fun _ => ⟨rfl, hnew⟩) (fun i j hi' hj => ?_) (fun i j hi' hj => ?_)
    · rw [Nat.zero_add, cell_of_row _ w.heap.size _ cs' e (0, 0) (heap_alloc_new w _)]
      have : i * ti.cells.length + j < cs'.size := by rw [hcs', ← hxn]; exact idx_lt hi' hj
      simp [Array.getD, this]
    · have := (hP.rep i j hi' hj).lv0 rfl
      rw [Nat.zero_add] at this
      exact st2.repD this

theorem OpWp.value' {nt : Nat} {a : Act} {s : St} {o : Oper} {Kv Kp : C → St → R} (h : ∃ v w', (execOp a.eval o).run P w = .ok (.value v) w' ∧ Done tt c w g s.objs nt a Kv v w') : OpWp tt P c g s.objs nt a w o Kv Kp := by
  obtain ⟨v, w', h1, h2⟩ := h
  exact .value h1 h2
theorem valOp_sound (hT : TTok P tt) {E : Env} (hE : E.B.tt = tt) (hX : ∀ f args os Kr Kp, E.B.W f args os Kr Kp → Wp c.T P tt f args os Kr Kp) {o : Oper} {nt : Nat} {a : Act} {s : St} {Kv : C → R} (hs : RepSt tt c w g nt a s)
    (h : valOp E o s Kv) : OpWp tt P c g s.objs nt a w o (fun cv s' => s' = s ∧ Kv cv) (fun _ _ => False) := by
  have via : evalOp E o s (fun cv s' => s' = s ∧ Kv cv) (fun _ _ => False) → OpWp tt P c g s.objs nt a w o (fun cv s' => s' = s ∧ Kv cv) (fun _ _ => False) := evalOp_sound hT hE hX hs
  cases hop : o.op
  case move x =>
    simp only [valOp, hop] at h
    exact .value (by simp only [execOp, hop]; rfl) (.same hs (hs.ev x) ⟨rfl, h⟩)
  case assign x =>
    simp only [valOp, hop] at h
    exact .value (by simp only [execOp, hop]; rfl) (.same hs (hs.ev x) ⟨rfl, h⟩)
  case call cc =>
    simp only [valOp, hop] at h
    split at h
    · rename_i hcal
      refine via ?_
      simp only [evalOp, hop, hcal]
      split at h
      · split at h
        · exact fun _ => ⟨trivial, h⟩
        · cases h
      · cases h
    · rename_i f hcal
      split at h
      · rename_i g1 caps hfe
        obtain ⟨hcond, h'⟩ := bif_some h
        clear h
        simp only [Bool.and_eq_true, List.all_eq_true] at hcond
        have hl := Nat.eq_of_beq_eq_true hcond.1
        split at h'
        · rename_i cs os' hargs
          rw [sqL_eq] at h'
          obtain ⟨cv, hP, hk⟩ := h'
          have hf := hs.ev f
          rw [hfe] at hf
          generalize hev : a.eval f = vf at hf
          cases hf with
          | func _ _ us hul hur =>
            have hlz : (zipT cc.argTypes.toList (cc.args.toList.map s.ev)).length = cc.args.toList.length := by
              rw [zipT_length _ _ (by simp at hl ⊢; omega)]; simp
            refine pureCall_sound hX hs (vs := cc.args.toList.map a.eval) (us := us.toList) (by rw [hlz]; simp) (fun i hi => ?_) (fun p hp => ?_) (by simpa using hul) (fun i hi => ?_) hargs hP hk ?_
            · rw [zipT_getD _ _ _ (by simp at hl ⊢; omega)]
              exact hs.evs _ i (by rw [hlz] at hi; simpa using hi)
            · have := zipT_mem hp
              obtain ⟨x, hx, he⟩ := List.mem_map.1 this
              rw [← he]
              exact hcond.2 x hx
            · rw [getD_toList]; exact hur i hi
            · simp only [execOp, hop, resolve, hcal, hev, Deferred.ofValue, Sem.run_bind, Sem.run_pure, Result.andThen_ok, invoke]
              congr 2
              simp
        · cases h'
      · cases h
    · cases h
  case buildSlice T n ps =>
    simp only [valOp, hop] at h
    split at h
    · rename_i e ks b hti
      split at h
      · rename_i ti hte
        obtain ⟨hc, h'⟩ := bif_some h
        clear h
        obtain ⟨hc1, hc2⟩ := Bool.and_eq_true_iff.1 hc
        simp only [Bool.and_eq_true, List.all_eq_true] at hc1
        split at h'
        · rename_i xs os' hp
          rw [hE] at hp hti hte
          have hos := putParts_noRow hp fun p hpm => by
            obtain ⟨q, hq, rfl⟩ := List.mem_map.1 hpm
            exact List.all_eq_true.1 hc2 q hq
          subst hos
          obtain ⟨v, w', g', hr, hs', st, hz, hf⟩ := op_buildFull hT hs hti hte hc1.1.1 (by have := hc1.1.2; simp [Nat.blt] at this; omega) (Nat.eq_of_beq_eq_true hc1.2.1) (Nat.le_of_ble_eq_true hc1.2.2.1) (fun p hp => List.all_eq_true.2 (hc1.2.2.2 p hp)) hp
          refine .value (v := v) (w' := w') (by simp only [execOp, hop, Sem.run_bind, hr, Result.andThen_ok]; rfl) ?_
          cases xs with
          | nil => exact ⟨_, s, g', hs', st, hz rfl, rfl, h'⟩
          | cons x xs => exact ⟨_, s, g', hs', st, hf, rfl, h'⟩
        · cases h'
      · cases h
    · cases h
  case slice T x lo hi mx =>
    simp only [valOp, hop] at h
    have rel : ∀ y : Option Operand, Option.Rel (fun v x => RepC tt w (Now c w g s.objs.length) g s.objs v x) (y.map a.eval) (y.map s.ev) := by
      intro y
      cases y with
      | none => exact .none
      | some y => exact .some (hs.ev y)
    obtain ⟨v, cv, hr, hv, hk⟩ := evalSlice_sound hT hE hs.inv h (hs.ev x) (rel lo) (rel hi) (rel mx)
    exact .value (v := v) (by simp [execOp, hop, hr]) (.same hs hv ⟨rfl, hk⟩)
  case makeInterface T x =>
    refine via ?_
    simp only [valOp, hop] at h
    simp only [evalOp, hop]
    split at h
    · rename_i h1 h2
      simp only [h1, h2, true_and]
      exact h
    · rename_i h1 h2
      simp only [h1, h2, true_and]
      exact h
    · rename_i h1 h2
      simp only [h1, h2, true_and]
      exact h
    · cases h
  case binOp op T x y U =>
    simp only [valOp, hop] at h
    exact .value' (by
      obtain ⟨v, cv, hr, hv, hk⟩ := evalBin2_sound (P := P) (ox := x) (oy := y) (a := a) hT hE h (hs.ev x) (hs.ev y)
      refine ⟨v, w, ?_, .same hs hv ⟨rfl, hk⟩⟩
      simp only [execOp, hop]
      simp only [Sem.run_bind] at hr ⊢
      rw [hr]
      rfl)
  all_goals
    refine via ?_
    simp only [valOp, hop] at h
    try (simp only [evalOp, hop, true_and]; exact h)

end Go.Proofs.EN
