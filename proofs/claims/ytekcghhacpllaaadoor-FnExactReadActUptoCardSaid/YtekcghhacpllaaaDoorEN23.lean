/- Contracts of functions of this program, by the evaluator EN; part EN23. No conditions but those that each theorem states. -/
import Derived.Test.YtekcghhacpllaaaDoorEN22
/- Regions. -/
namespace Go.Proofs.EN
open Go
set_option linter.unusedVariables false
set_option linter.unusedSimpArgs false
variable {tt : TypeId → Option TI} {P : Program} {c : Ctx} {w : World} {g : Gh} {os : List Ob} {S : Nat → Prop}

/-- Where a run of the code stands. -/
def At (tt : TypeId → Option TI) (c : Ctx) (nt : Nat) (g0 : Gh) (os0 : List Ob) (s : St) (a : Act) (w : World) : Prop :=
  ∃ g, RepSt tt c w g nt a s ∧ Later g0 os0 g s.objs
def AtP (tt : TypeId → Option TI) (c : Ctx) (g0 : Gh) (os0 : List Ob) (K : C → St → R) (v : Value) (a : Act) (w : World) : Prop :=
  ∃ s g x, Inv tt c w g s.objs ∧ a.defers = [] ∧ Later g0 os0 g s.objs ∧ RepC tt w (Now c w g s.objs.length) g s.objs v x ∧ K x s
def Post (tt : TypeId → Option TI) (c : Ctx) (nt : Nat) (g0 : Gh) (os0 : List Ob) (K : Ex → St → R) : Exit → Act → World → Prop
  | .normal, a, w => ∃ s, At tt c nt g0 os0 s a w ∧ K .normal s
  | .exit i, a, w => ∃ s, At tt c nt g0 os0 s a w ∧ K (.exit i) s
  | .ret, a, w => ∃ s, At tt c nt g0 os0 s a w ∧ K .ret s
  | .panic chain, a, w => ∃ v, chain = [{ v, recovered := false }] ∧ AtP tt c g0 os0 (fun x s => K (.panic x) s) v a w
  | _, _, _ => False

variable {nt : Nat} {gg : Gh} {os0 : List Ob}

theorem put_objs (s : St) (dst : Option Tmp) (x : C) : (s.put nt dst x).objs = s.objs := by
  cases dst with
  | none => rfl
  | some t => simp only [St.put]; cases Nat.blt t nt <;> rfl
theorem put_defers (a : Act) (dst : Option Tmp) (v : Value) : (a.put dst v).defers = a.defers := by cases dst <;> rfl
theorem At.put {s : St} {a : Act} (h : At tt c nt gg os0 s a w) (dst : Option Tmp) : At tt c nt gg os0 (s.put nt dst .unw) (a.put dst Go.undef) w := by
  obtain ⟨g, hs, hg⟩ := h
  exact ⟨g, hs.put dst .unw, by rw [put_objs]; exact hg⟩

/-! ### Guards -/
theorem nthO_eq : ∀ (l : List Oper) (j : Nat), nthO l j = l[j]?
  | [], _ => rfl
  | _ :: _, 0 => rfl
  | _ :: r, j + 1 => nthO_eq r j
/-- What a guard is told by the values that there are. -/
def Knows (a : Act) (s : St) : Prop := ∀ t, (∀ b, look t s.tmps = .d (.bool b) → a.tmps.getD t Go.undef = .bool b) ∧ (look t s.tmps = .unw → a.tmps.getD t Go.undef = Go.undef)
theorem RepSt.bools {a : Act} {s : St} (hs : RepSt tt c w g nt a s) : Knows a s := by
  intro t
  have := hs.tmp t
  refine ⟨fun b hb => ?_, fun hb => ?_⟩
  · rw [hb] at this
    exact this.bool_inv
  · rw [hb] at this
    generalize a.tmps.getD t Go.undef = v at this
    cases this
    rfl
theorem guardR_cases {ops : Array Oper} {o : Oper} {s : St} {yes no : R} (h : guardR ops.toList o s yes no) :
    ((∀ y n', y → guardR ops.toList o s y n') ∧ yes ∧ ∀ a : Act, Knows a s → Region.wanted o (yielded ops a.tmps) = true) ∨
    ((∀ y n' : R, n' → guardR ops.toList o s y n') ∧ no ∧ ∀ a : Act, Knows a s → Region.wanted o (yielded ops a.tmps) = false) := by
  unfold guardR at h ⊢
  unfold Region.wanted
  cases hg : o.guard with
  | none =>
    simp only [hg] at h ⊢
    exact .inl ⟨fun _ _ h => h, h, fun _ _ => by first | rfl | trivial⟩
  | some p =>
    obtain ⟨j, want⟩ := p
    have hjj : nthO ops.toList j = ops[j]? := by rw [nthO_eq]; simp
    simp only [hg, hjj] at h ⊢
    cases hj : ops[j]? with
    | none => simp only [hj] at h
    | some oj =>
      simp only [hj] at h ⊢
      cases hd : oj.dst with
      | none => simp only [hd] at h
      | some t =>
        simp only [hd] at h ⊢
        generalize hc : look t s.tmps = ct at h ⊢
        match ct, hc, h with
        | .d (.bool b), hc, h =>
          have hy : ∀ a : Act, Knows a s → yielded ops a.tmps j = some b := by
            intro a hr
            have h1 := (hr t).1 b hc
            have h2 : a.tmps[t]? = some (.bool b) := by
              rcases Nat.lt_or_ge t a.tmps.size with hlt | hge
              · rw [Array.getElem?_eq_getElem hlt]
                simpa [Array.getD, hlt] using h1
              · rw [Array.getD_eq_getD_getElem?, Array.getElem?_eq_none hge] at h1
                cases h1
            simp [yielded, hj, hd, h2]
          cases want <;> cases b
          · exact .inl ⟨fun _ _ h => h, h, fun a hr => by rw [hy a hr]; rfl⟩
          · exact .inr ⟨fun _ _ h => h, h, fun a hr => by rw [hy a hr]; rfl⟩
          · exact .inr ⟨fun _ _ h => h, h, fun a hr => by rw [hy a hr]; rfl⟩
          · exact .inl ⟨fun _ _ h => h, h, fun a hr => by rw [hy a hr]; rfl⟩
        | .unw, hc, h =>
          refine .inr ⟨fun _ _ h => h, h, fun a hr => ?_⟩
          have h1 := (hr t).2 hc
          have hy : yielded ops a.tmps j = none := by
            cases h2 : a.tmps[t]? with
            | none => simp [yielded, hj, hd, h2]
            | some u =>
              rw [Array.getD_eq_getD_getElem?, h2] at h1
              simp only [Option.getD_some] at h1
              subst h1
              simp [yielded, hj, hd, h2, Go.undef]
          rw [hy]
          rfl
theorem splitB_id {g : Bool} {x : C} {K : C → R} (h : splitB g x K) : K x := by
  unfold splitB at h
  split at h
  · rename_i b
    cases b <;> exact h
  · exact h

/-! ### Operations one behind another -/
theorem evalOps_sound (hT : TTok P tt) {E : Env} (hE : E.B.tt = tt) (hnt : E.nt = nt) (hX : ∀ f args os Kr Kp, E.B.W f args os Kr Kp → Wp c.T P tt f args os Kr Kp) {ops : Array Oper} {K : Ex → St → R} : ∀ (l : List Oper) (i : Nat) (s : St) (a : Act) (w : World),
    evalOps E ops.toList l i s K → At tt c nt gg os0 s a w → wpList P ops (Post tt c nt gg os0 K) l a w
  | [], i, s, a, w, h, hs => ⟨s, hs, h⟩
  | o :: rest, i, s, a, w, h, hat => by
    obtain ⟨g, hs, hg⟩ := hat
    simp only [evalOps_cons, putK_eq, hnt] at h
    simp only [wpList]
    rcases guardR_cases h with ⟨_, hy, hw⟩ | ⟨_, hn, hw⟩
    · rw [hw a hs.bools, if_pos rfl]
      refine .inl (evalOp_sound hT hE hX hs hy _ _ (fun v w' hd => ?_) (fun v w' hd => ?_))
      · obtain ⟨cv, s', g', hs', hg', hv, hk⟩ := hd
        exact evalOps_sound hT hE hnt hX rest (i + 1) (s'.put nt o.dst cv) (a.put o.dst v) w' (splitB_id hk) ⟨g', hs'.put o.dst hv, by rw [put_objs]; exact hg.trans hg'.later⟩
      · obtain ⟨cv, s', g', hs', hg', hv, hk⟩ := hd
        exact ⟨v, rfl, s', g', cv, hs'.inv, hs'.dfr, hg.trans hg'.later, hv, hk⟩
    · rw [hw a hs.bools]
      simp only [Bool.false_eq_true, if_false]
      exact evalOps_sound hT hE hnt hX rest (i + 1) _ _ w hn (At.put ⟨g, hs, hg⟩ o.dst)

/-! ### States that are alike -/
def Sim (s s' : St) : Prop := s'.objs = s.objs ∧ ∀ t, look t s'.tmps = look t s.tmps
theorem Sim.refl (s : St) : Sim s s := ⟨rfl, fun _ => rfl⟩
theorem Sim.symm {s s' : St} (h : Sim s s') : Sim s' s := ⟨h.1.symm, fun t => (h.2 t).symm⟩
theorem Sim.trans {s s' s'' : St} (h : Sim s s') (k : Sim s' s'') : Sim s s'' := ⟨k.1.trans h.1, fun t => (k.2 t).trans (h.2 t)⟩
theorem look_put (s : St) (d : Option Tmp) (x : C) (t : Nat) : look t (s.put nt d x).tmps = if d = some t ∧ t < nt then x else look t s.tmps := by
  cases d with
  | none => simp [St.put]
  | some u =>
    simp only [St.put]
    cases hu : Nat.blt u nt with
    | false =>
      have hu' : ¬ u < nt := fun h => by rw [lt_blt h] at hu; cases hu
      simp only [cond_false]
      rw [if_neg]
      rintro ⟨h, h2⟩
      cases h
      exact hu' h2
    | true =>
      have hu' := blt_lt hu
      simp only [cond_true, look_cons]
      cases hq : Nat.beq u t with
      | true =>
        have := Nat.eq_of_beq_eq_true hq
        subst this
        simp [hu']
      | false =>
        have hne : u ≠ t := fun e => by subst e; simp at hq
        simp [hne]
theorem Sim.put {s s' : St} (h : Sim s s') (d : Option Tmp) (x : C) : Sim (s.put nt d x) (s'.put nt d x) := by
  refine ⟨by rw [put_objs, put_objs]; exact h.1, fun t => ?_⟩
  rw [look_put, look_put, h.2 t]
theorem put_comm (s : St) {x y : Option Tmp} (v u : C) (h : ∀ d, x = some d → y ≠ some d) : Sim ((s.put nt x v).put nt y u) ((s.put nt y u).put nt x v) := by
  refine ⟨by simp only [put_objs], fun t => ?_⟩
  simp only [look_put]
  by_cases h1 : x = some t ∧ t < nt
  · have h2 : ¬ (y = some t ∧ t < nt) := fun h2 => h t h1.1 h2.1
    rw [if_pos h1, if_neg h2, if_pos h1]
  · rw [if_neg h1, if_neg h1]
theorem Sim.ev {s s' : St} (h : Sim s s') (y : Operand) : s'.ev y = s.ev y := by
  cases y with
  | tmp t => exact h.2 t
  | _ => rfl
theorem Sim.at {s s' : St} {a : Act} (h : Sim s s') (hat : At tt c nt gg os0 s a w) : At tt c nt gg os0 s' a w := by
  obtain ⟨g, hs, hg⟩ := hat
  refine ⟨g, ⟨by rw [h.1]; exact hs.inv, hs.dfr, hs.len, fun t => ?_⟩, by rw [h.1]; exact hg⟩
  rw [h.1, h.2 t]
  exact hs.tmp t

/-! ### Regions that draw their order -/
section
variable {E : Env} {ops : Array Oper}
def YA (E : Env) (ops : Array Oper) (o : Oper) (cv : C) (s : St) : Prop := guardR ops.toList o s (valOp E o s fun x => x = cv) (cv = .unw)
def aOp (E : Env) (ops : Array Oper) (i : Nat) (K : St → Prop) (s : St) : Prop :=
  match ops[i]? with
  | none => K s
  | some o => ∃ cv, YA E ops o cv s ∧ K (s.put E.nt o.dst cv)
theorem aOp_mono {i : Nat} {s : St} {K K' : St → Prop} (h : ∀ s, K s → K' s) (hh : aOp E ops i K s) : aOp E ops i K' s := by
  unfold aOp at *
  split
  · rename_i hi
    rw [hi] at hh
    exact h _ hh
  · rename_i o hi
    rw [hi] at hh
    obtain ⟨cv, h1, h2⟩ := hh
    exact ⟨cv, h1, h _ h2⟩
theorem ev_put {s : St} {d : Option Tmp} {x : C} {y : Operand} (h : ∀ t, d = some t → y ≠ .tmp t) : (s.put nt d x).ev y = s.ev y := by
  cases y with
  | tmp u =>
    show look u _ = look u _
    rw [look_put, if_neg]
    exact fun ⟨e, _⟩ => h u e rfl
  | _ => rfl
/-- It hangs on what is looked at alone. -/
theorem YA_congr {o : Oper} {cv : C} {s s' : St} (ho : s'.objs = s.objs) (h : ∀ t, t ∈ o.looksAt ops → look t s'.tmps = look t s.tmps) : YA E ops o cv s' ↔ YA E ops o cv s := by
  have hop : ∀ y ∈ o.op.operands, s'.ev y = s.ev y := fun y hy => by
    cases y with
    | tmp t =>
      refine h t ?_
      simp only [Oper.looksAt, List.mem_append, List.mem_filterMap]
      exact .inl ⟨_, by simpa using hy, rfl⟩
    | _ => rfl
  unfold YA
  rw [valOp_congr E o ho hop]
  unfold guardR
  cases hg : o.guard with
  | none => rfl
  | some p =>
    obtain ⟨j, want⟩ := p
    have hjj : nthO ops.toList j = ops[j]? := by rw [nthO_eq]; simp
    simp only [hjj]
    cases hj : ops[j]? with
    | none => rfl
    | some oj =>
      simp only []
      cases hd : oj.dst with
      | none => rfl
      | some t =>
        simp only []
        rw [h t (by
          simp only [Oper.looksAt, List.mem_append, hg, hj]
          exact .inr (by simp [hd]))]
theorem YA_put {o : Oper} {cv x : C} {s : St} {d : Option Tmp} (h : ∀ t, d = some t → t ∉ o.looksAt ops) : YA E ops o cv (s.put nt d x) ↔ YA E ops o cv s :=
  YA_congr (put_objs s d x) fun t ht => by
    rw [look_put, if_neg]
    exact fun ⟨e, _⟩ => h t e ht
theorem YA_sim {o : Oper} {cv : C} {s s' : St} (h : Sim s s') : YA E ops o cv s' ↔ YA E ops o cv s := YA_congr h.1 fun t _ => h.2 t
theorem aOp_sim {i : Nat} {K : St → Prop} (hK : ∀ s s', Sim s s' → K s → K s') {s s' : St} (h : Sim s s') (hh : aOp E ops i K s) : aOp E ops i K s' := by
  unfold aOp at *
  split
  · rename_i hi
    rw [hi] at hh
    exact hK _ _ h hh
  · rename_i o hi
    rw [hi] at hh
    obtain ⟨cv, h1, h2⟩ := hh
    exact ⟨cv, (YA_sim h).2 h1, hK _ _ (h.put _ _) h2⟩
theorem aOp_put {j : Nat} {oi oj : Oper} {cv : C} (hj : ops[j]? = some oj) (hap : oi.apart ops oj = true) {K : St → Prop} (hK : ∀ s s', Sim s s' → K s → K s') {s : St} (hy : YA E ops oi cv s) (h : aOp E ops j K (s.put E.nt oi.dst cv)) :
    aOp E ops j (fun s' => YA E ops oi cv s' ∧ K (s'.put E.nt oi.dst cv)) s := by
  obtain ⟨h1, h2, h3⟩ := Oper.apart_spec hap
  unfold aOp at *
  simp only [hj] at *
  obtain ⟨cj, hyj, hk⟩ := h
  exact ⟨cj, (YA_put h1).1 hyj, (YA_put h3).2 hy, hK _ _ (put_comm s cv cj h2) hk⟩
theorem YA.aOp {i : Nat} {oi : Oper} {cv : C} (hi : ops[i]? = some oi) {s : St} (hy : YA E ops oi cv s) {K : St → Prop} (h : K (s.put E.nt oi.dst cv)) : aOp E ops i K s := by
  unfold EN.aOp
  rw [hi]
  exact ⟨cv, hy, h⟩

def aAnyL (E : Env) (ops : Array Oper) (n : Nat) (L : Array Bool → St → Prop) : Nat → Array Bool → St → Prop
  | 0, listed, s => L listed s
  | f + 1, listed, s => Region.ready .any ops listed ≠ [] ∧ ∀ i ∈ Region.ready .any ops listed, i < n ∧ aOp E ops i (aAnyL E ops n L f (listed.setIfInBounds i true)) s
theorem aAnyL_sim {n : Nat} {L : Array Bool → St → Prop} (hL : ∀ listed s s', Sim s s' → L listed s → L listed s') : ∀ (f : Nat) (listed : Array Bool) (s s' : St), Sim s s' → aAnyL E ops n L f listed s → aAnyL E ops n L f listed s'
  | 0, listed, s, s', h, hh => hL _ _ _ h hh
  | f + 1, listed, s, s', h, hh => ⟨hh.1, fun i hi => ⟨(hh.2 i hi).1, aOp_sim (fun s s' h hk => aAnyL_sim hL f _ s s' h hk) h (hh.2 i hi).2⟩⟩
theorem aAnyL_first {n i : Nat} {oi : Oper} {cv : C} {L : Array Bool → St → Prop} (hLs : ∀ listed s s', Sim s s' → L listed s → L listed s') (hi : ops[i]? = some oi) (hs : Region.sinkB .any ops n = true) (hc : Region.chainB .any ops n = true) (hn : n < ops.size) (hin : i < n)
    (hdone : ∀ listed s, L listed s → ∀ j ∈ Region.ready .any ops listed, n ≤ j) :
    ∀ (f : Nat) (listed : Array Bool) (s : St), HeadInv .any ops n listed →
      (∀ j oj, ops[j]? = some oj → j ≠ i → listed.getD j true = false → (∀ e ∈ oj.after, Region.binds .any e = true → e.on ≠ i) → oi.apart ops oj = true) →
      i ∈ Region.ready .any ops listed → YA E ops oi cv s →
      aAnyL E ops n L f (listed.setIfInBounds i true) (s.put E.nt oi.dst cv) → aAnyL E ops n L (f + 1) listed s := by
  intro f
  induction f with
  | zero =>
    intro listed s inv _ hr hy H
    have hun := (mem_ready.1 hr).1
    refine ⟨fun h => (by rw [h] at hr; cases hr), fun j hj => ?_⟩
    have hjn : j < n := by
      rcases Nat.lt_or_ge j n with h | h
      · exact h
      · exact absurd hj (tail_waits hs hc hn inv _ i rfl hin hun j h)
    refine ⟨hjn, ?_⟩
    by_cases hji : j = i
    · subst hji; exact hy.aOp hi H
    · have := hdone _ _ H j (ready_mono hj hji)
      omega
  | succ f ih =>
    intro listed s inv hfree hr hy H
    have hun := (mem_ready.1 hr).1
    refine ⟨fun h => (by rw [h] at hr; cases hr), fun j hj => ?_⟩
    have hjn : j < n := by
      rcases Nat.lt_or_ge j n with h | h
      · exact h
      · exact absurd hj (tail_waits hs hc hn inv _ i rfl hin hun j h)
    refine ⟨hjn, ?_⟩
    by_cases hji : j = i
    · subst hji; exact hy.aOp hi H
    · have h1 := (H.2 j (ready_mono hj hji)).2
      obtain ⟨hjun, oj, hoj, hall⟩ := mem_ready.1 hj
      have hnot : ∀ e ∈ oj.after, Region.binds .any e = true → e.on ≠ i := fun e he hb heq => by
        have h1 := hall e he hb
        rw [heq, getD_both hun] at h1
        cases h1
      have h2 := aOp_put hoj (hfree j oj hoj hji hjun hnot) (fun s s' h hk => aAnyL_sim hLs f _ s s' h hk) hy h1
      have hfree' : ∀ k ok, ops[k]? = some ok → k ≠ i → (listed.setIfInBounds j true).getD k true = false →
          (∀ e ∈ ok.after, Region.binds .any e = true → e.on ≠ i) → oi.apart ops ok = true := fun k ok hk hki hun hno => by
        refine hfree k ok hk hki ?_ hno
        by_cases hjk : j = k
        · subst hjk; exact hjun
        · rw [getD_set_ne true hjk] at hun; exact hun
      refine aOp_mono (fun s' h3 => ih (listed.setIfInBounds j true) s' (inv.set hj hjn) hfree' (ready_mono hr (Ne.symm hji)) h3.1 ?_) h2
      rw [Array.setIfInBounds_comm _ _ hji]
      exact h3.2

def aHead (E : Env) (ops : Array Oper) (Lq : St → Prop) : List Oper → St → Prop
  | [], s => Lq s
  | o :: r, s => ∃ cv, YA E ops o cv s ∧ aHead E ops Lq r (s.put E.nt o.dst cv)
theorem aHead_of_eval {Lq : St → R} : ∀ (l : List Oper) (i : Nat) (s : St), evalHead E ops.toList l i s Lq → aHead E ops Lq l s
  | [], _, _, h => h
  | o :: r, i, s, h => by
    simp only [evalHead_cons, putK_eq] at h
    rcases guardR_cases h with ⟨hall, hy, _⟩ | ⟨hall, hn, _⟩
    · obtain ⟨cv, hk, hp⟩ := valOp_para E o s _ hy
      exact ⟨cv, hall _ _ (hp _ rfl), aHead_of_eval r (i + 1) _ (splitB_id hk)⟩
    · exact ⟨.unw, hall _ _ rfl, aHead_of_eval r (i + 1) _ hn⟩
theorem aAnyL_lex {n g : Nat} {Lq : St → Prop} (hLq : ∀ s s', Sim s s' → Lq s → Lq s') (hs : Region.sinkB .any ops n = true) (hc : Region.chainB .any ops n = true) (hn : n < ops.size) :
    ∀ (l : List Oper) (k : Nat) (listed : Array Bool) (s : St), (∀ j, j < l.length → l[j]? = ops[k + j]?) → k + l.length = n → HeadInv .any ops n listed →
    Region.lexHead .any ops g l.length k listed = true → aHead E ops Lq l s →
    aAnyL E ops n (fun listed' s' => Region.seqB .any ops g n listed' = true ∧ Lq s') l.length listed s
  | [], k, listed, s, _, hk, _, hB, h => by
    have : k = n := by simpa using hk
    subst this
    exact ⟨by simpa [Region.lexHead] using hB, h⟩
  | o :: l, k, listed, s, hl, hk, inv, hB, h => by
    have h0 : ops[k]? = some o := by simpa using (hl 0 (by simp)).symm
    simp only [List.length_cons, Region.lexHead, Bool.and_eq_true] at hB
    obtain ⟨⟨hr, hf⟩, hB'⟩ := hB
    have hkn : k < n := by simp only [List.length_cons] at hk; omega
    have hr' : k ∈ Region.ready .any ops listed := by simpa using hr
    obtain ⟨cv, hy, hK⟩ := h
    exact aAnyL_first (fun listed s s' hsim hL => ⟨hL.1, hLq s s' hsim hL.2⟩) h0 hs hc hn hkn (fun listed' s' hL => seqB_ready hL.1) l.length listed s inv (Region.free_spec h0 hf) hr' hy
      (aAnyL_lex hLq hs hc hn l (k + 1) _ _ (fun j hj => by have := hl (j + 1) (by simp; omega); simpa [Nat.add_assoc, Nat.add_comm 1 j] using this) (by simp only [List.length_cons] at hk; omega) (inv.set hr' hkn) hB' hK)
end
theorem aHead_mono {E : Env} {ops : Array Oper} {L L' : St → Prop} (h : ∀ s, L s → L' s) : ∀ (l : List Oper) (s : St), aHead E ops L l s → aHead E ops L' l s
  | [], s, hh => h s hh
  | o :: r, s, ⟨cv, h1, h2⟩ => ⟨cv, h1, aHead_mono h r _ h2⟩

theorem aOp_wp (hT : TTok P tt) {E : Env} (hE : E.B.tt = tt) (hnt : E.nt = nt) (hX : ∀ f args os Kr Kp, E.B.W f args os Kr Kp → Wp c.T P tt f args os Kr Kp) {ops : Array Oper} {Q : Exit → Act → World → Prop} {i : Nat} {s : St} {a : Act} {w : World} {K : St → Prop} {K' : Act → World → Prop}
    (h : aOp E ops i K s) (hat : At tt c nt gg os0 s a w) (hk : ∀ s' a' w', K s' → At tt c nt gg os0 s' a' w' → K' a' w') : wpOp P ops Q i K' a w := by
  unfold aOp at h
  unfold wpOp
  cases hi : ops[i]? with
  | none => rw [hi] at h; exact hk s a w h hat
  | some o =>
    rw [hi] at h
    obtain ⟨cv, hy, hK⟩ := h
    rw [hnt] at hK
    obtain ⟨g, hs, hg⟩ := hat
    simp only []
    rcases guardR_cases hy with ⟨_, hy, hw⟩ | ⟨_, hn, hw⟩
    · rw [hw a hs.bools, if_pos rfl]
      refine .inl (valOp_sound hT hE hX hs hy _ _ (fun v w' hd => ?_) (fun v w' hd => ?_))
      · obtain ⟨cv', s', g', hs', hg', hv, rfl, rfl⟩ := hd
        exact hk _ _ w' hK ⟨g', hs'.put o.dst hv, by rw [put_objs]; exact hg.trans hg'.later⟩
      · obtain ⟨cv', s', g', hs', hg', hv, hf⟩ := hd
        exact hf.elim
    · rw [hw a hs.bools]
      simp only [Bool.false_eq_true, if_false]
      rw [hn] at hK
      exact hk _ _ w hK (At.put ⟨g, hs, hg⟩ o.dst)
theorem aAnyL_wp (hT : TTok P tt) {E : Env} (hE : E.B.tt = tt) (hnt : E.nt = nt) (hX : ∀ f args os Kr Kp, E.B.W f args os Kr Kp → Wp c.T P tt f args os Kr Kp) {ops : Array Oper} {Q : Exit → Act → World → Prop} {m g : Nat} {L : Array Bool → St → Prop}
    (hL : ∀ listed s a w, L listed s → At tt c nt gg os0 s a w → wpAny P .any ops Q g listed a w) :
    ∀ (f : Nat) (listed : Array Bool) (s : St) (a : Act) (w : World), aAnyL E ops m L f listed s → At tt c nt gg os0 s a w → wpAny P .any ops Q (f + g) listed a w
  | 0, listed, s, a, w, h, hat => by rw [Nat.zero_add]; exact hL _ _ _ _ h hat
  | f + 1, listed, s, a, w, h, hat => by
    rw [show f + 1 + g = (f + g) + 1 by omega]
    exact ⟨fun h0 => absurd h0 h.1, fun i hi => aOp_wp hT hE hnt hX (h.2 i hi).2 hat fun s' a' w' hk hat' => aAnyL_wp hT hE hnt hX hL f _ s' a' w' hk hat'⟩

theorem At.grown {s : St} {a : Act} (h : At tt c nt gg os0 s a w) {w' : World} (hk : Kept (fun _ => False) w w') : At tt c nt gg os0 s a w' := by
  obtain ⟨g, hs, hg⟩ := h
  exact ⟨g, (hs.grown hk).1, hg⟩

theorem firstFree_some {ops : Array Oper} {listed : Array Bool} : ∀ {l : List Nat} {i : Nat}, firstFree ops listed l = some i → i ∈ l ∧ ∃ o, ops[i]? = some o ∧ isFree o = true ∧ Region.free .any ops listed i = true
  | [], i, h => by cases h
  | j :: r, i, h => by
    simp only [firstFree] at h
    split at h
    · rename_i o ho
      cases hc : isFree o && Region.free .any ops listed j with
      | true =>
        simp only [hc, cond_true, Option.some.injEq] at h
        subst h
        simp only [Bool.and_eq_true] at hc
        exact ⟨by simp, o, ho, hc.1, hc.2⟩
      | false =>
        simp only [hc, cond_false] at h
        obtain ⟨h1, h2⟩ := firstFree_some h
        exact ⟨List.mem_cons_of_mem _ h1, h2⟩
    · obtain ⟨h1, h2⟩ := firstFree_some h
      exact ⟨List.mem_cons_of_mem _ h1, h2⟩
theorem freeOp_sound {o : Oper} {a : Act} {s : St} {Kv : C → R} (hs : RepSt tt c w g nt a s) (h : freeOp o s Kv) :
    ∃ v cv, (∀ w, (execOp a.eval o).run P w = .ok (.value v) w) ∧ RepC tt w (Now c w g s.objs.length) g s.objs v cv ∧ Kv cv := by
  unfold freeOp at h
  split at h
  · rename_i x hop
    exact ⟨a.eval x, s.ev x, fun w => by simp only [execOp, hop]; rfl, hs.ev x, h⟩
  · rename_i x hop
    exact ⟨a.eval x, s.ev x, fun w => by simp only [execOp, hop]; rfl, hs.ev x, h⟩
  · rename_i cc x y hop
    have hc := hs.ev cc
    split at h
    · rename_i b hb
      rw [hb] at hc
      have hc := hc.bool_inv
      cases b with
      | true => exact ⟨a.eval x, s.ev x, fun w => by simp [execOp, hop, hc, asBool], hs.ev x, h⟩
      | false => exact ⟨a.eval y, s.ev y, fun w => by simp [execOp, hop, hc, asBool], hs.ev y, h⟩
    · cases h
  · cases h

theorem eqNs_eq : ∀ {a b : List Nat}, eqNs a b = true → a = b
  | [], [], _ => rfl
  | a :: x, b :: y, h => by
    simp only [eqNs, Bool.and_eq_true] at h
    rw [Nat.eq_of_beq_eq_true h.1, eqNs_eq h.2]
theorem evalPlan_sound (hT : TTok P tt) {E : Env} (hE : E.B.tt = tt) (hnt : E.nt = nt) (hX : ∀ f args os Kr Kp, E.B.W f args os Kr Kp → Wp c.T P tt f args os Kr Kp) {ops : Array Oper} (hsel : Region.noSelect ops = true) {K : Ex → St → R} (p : Plan) :
    (∀ (f : Nat) (listed : Array Bool) (s : St) (a : Act) (w : World), chk ops p f listed true = true → evalPlan E ops.toList K p s → At tt c nt gg os0 s a w → wpAny P .any ops (Post tt c nt gg os0 K) f listed a w) ∧
    (∀ (f : Nat) (listed : Array Bool) (s : St) (a : Act) (w : World), chk ops p (f + 1) listed false = true → evalPlan E ops.toList K p s → At tt c nt gg os0 s a w → ∀ i, i ∈ p.alts → wpOp P ops (Post tt c nt gg os0 K) i (wpAny P .any ops (Post tt c nt gg os0 K) f (listed.setIfInBounds i true)) a w) := by
  induction p with
  | done =>
    refine ⟨fun f listed s a w hc h hat => ?_, fun f listed s a w hc h hat i hi => by cases hi⟩
    simp only [chk, Bool.true_and, List.isEmpty_iff] at hc
    cases f with
    | zero => exact ⟨hc, s, hat, h⟩
    | succ f => exact wpAny_done hc ⟨s, hat, h⟩ (f + 1)
  | stop => exact ⟨fun f listed s a w hc h hat => by simp [chk] at hc, fun f listed s a w hc h hat i hi => by cases hi⟩
  | free i p ih =>
    refine ⟨fun f listed s a w hc h hat => ?_, fun f listed s a w hc h hat i hi => by cases hi⟩
    simp only [chk, Bool.true_and, Bool.and_eq_true] at hc
    obtain ⟨h0, hf, hc⟩ := hc
    obtain ⟨f, rfl⟩ : ∃ g, f = g + 1 := ⟨f - 1, (Nat.succ_pred_eq_of_pos (by simpa [Nat.blt_eq] using h0)).symm⟩
    have hff : firstFree ops listed (Region.ready .any ops listed) = some i := by
      unfold isSm at hf
      split at hf
      · rename_i j hj
        rw [hj, Nat.eq_of_beq_eq_true hf]
      · cases hf
    obtain ⟨hi, o, ho, hfree, hfr⟩ := firstFree_some hff
    have h : (match nthO ops.toList i with
      | some o => guardR ops.toList o s (freeOp o s fun c => splitB (guards i ops.toList) c fun c' => s.putK E.nt o.dst c' fun s' => evalPlan E ops.toList K p s') (s.putK E.nt o.dst .unw fun s' => evalPlan E ops.toList K p s')
      | none => False) := h
    rw [nthO_eq, Array.getElem?_toList, ho] at h
    simp only [putK_eq, hnt] at h
    have hQ : ∀ v c' a' w', Post tt c nt gg os0 K (.panic c') (a'.put o.dst v) w' → Post tt c nt gg os0 K (.panic c') a' w' := by
      rintro v c' a' w' ⟨u, hch, s', g', x, h1, h2, h3, h4, h5⟩
      rw [put_defers] at h2
      exact ⟨u, hch, s', g', x, h1, h2, h3, h4, h5⟩
    have hrd : (Region.ready .any ops listed).contains i = true := by simpa using hi
    obtain ⟨g, hs, hg⟩ := hat
    rcases guardR_cases h with ⟨_, hy, hw⟩ | ⟨_, hn, hw⟩
    · obtain ⟨v, cv, hrun, hv, hk⟩ := freeOp_sound (P := P) hs hy
      exact wpAny_take ho hsel hfr hrd (hQ v) (.inl ⟨hw a hs.bools, hrun⟩) (ih.1 f _ _ _ w hc (splitB_id hk) ⟨g, hs.put o.dst hv, by rw [put_objs]; exact hg⟩)
    · exact wpAny_take ho hsel hfr hrd (hQ Go.undef) (.inr ⟨hw a hs.bools, rfl⟩) (ih.1 f _ _ _ w hc hn (At.put ⟨g, hs, hg⟩ o.dst))
  | more i p q ihp ihq =>
    have key : ∀ (f : Nat) (listed : Array Bool) (s : St) (a : Act) (w : World), chk ops p f (listed.setIfInBounds i true) true = true → evalPlan E ops.toList K (.more i p q) s → At tt c nt gg os0 s a w → wpOp P ops (Post tt c nt gg os0 K) i (wpAny P .any ops (Post tt c nt gg os0 K) f (listed.setIfInBounds i true)) a w := by
      intro f listed s a w hc h hat
      obtain ⟨h1, _⟩ : PAnd (match nthO ops.toList i with
        | some o => guardR ops.toList o s (evalOp E o s (fun c s' => splitB (guards i ops.toList) c fun c' => s'.putK E.nt o.dst c' fun s' => evalPlan E ops.toList K p s') (fun c s' => K (.panic c) s')) (s.putK E.nt o.dst .unw fun s' => evalPlan E ops.toList K p s')
        | none => False) (evalPlan E ops.toList K q s) := h
      rw [nthO_eq, Array.getElem?_toList] at h1
      obtain ⟨g, hs, hg⟩ := hat
      unfold wpOp
      split at h1
      · rename_i o ho
        simp only [putK_eq, hnt] at h1
        simp only [ho]
        rcases guardR_cases h1 with ⟨_, hy, hw⟩ | ⟨_, hn, hw⟩
        · rw [hw a hs.bools, if_pos rfl]
          refine .inl (evalOp_sound hT hE hX hs hy _ _ (fun v w' hd => ?_) (fun v w' hd => ?_))
          · obtain ⟨cv, s', g', hs', hg', hv, hk⟩ := hd
            exact ihp.1 f _ _ _ w' hc (splitB_id hk) ⟨g', hs'.put o.dst hv, by rw [put_objs]; exact hg.trans hg'.later⟩
          · obtain ⟨cv, s', g', hs', hg', hv, hk⟩ := hd
            exact ⟨v, rfl, s', g', cv, hs'.inv, hs'.dfr, hg.trans hg'.later, hv, hk⟩
        · rw [hw a hs.bools]
          simp only [Bool.false_eq_true, if_false]
          exact ihp.1 f _ _ _ w hc hn (At.put ⟨g, hs, hg⟩ o.dst)
      · cases h1
    have rest : ∀ (f : Nat) (listed : Array Bool) (s : St) (a : Act) (w : World), chk ops p f (listed.setIfInBounds i true) true = true → chk ops q (f + 1) listed false = true → evalPlan E ops.toList K (.more i p q) s → At tt c nt gg os0 s a w →
        ∀ j, j ∈ i :: q.alts → wpOp P ops (Post tt c nt gg os0 K) j (wpAny P .any ops (Post tt c nt gg os0 K) f (listed.setIfInBounds j true)) a w := by
      intro f listed s a w hc hq h hat j hj
      rcases List.mem_cons.1 hj with rfl | hj
      · exact key f listed s a w hc h hat
      · obtain ⟨_, h2⟩ := h
        exact ihq.2 f listed s a w hq h2 hat j hj
    refine ⟨fun f listed s a w hc h hat => ?_, fun f listed s a w hc h hat j hj => ?_⟩
    · simp only [chk, Bool.not_true, Bool.false_or, Bool.and_eq_true] at hc
      obtain ⟨⟨h0, hr⟩, hc, hq⟩ := hc
      obtain ⟨f, rfl⟩ : ∃ g, f = g + 1 := ⟨f - 1, (Nat.succ_pred_eq_of_pos (by simpa [Nat.blt_eq] using h0)).symm⟩
      exact wpAny_all (eqNs_eq hr) (by simp) fun j hj => rest f listed s a w hc hq h hat j hj
    · simp only [chk, Bool.not_false, Bool.true_or, Bool.true_and, Bool.and_eq_true] at hc
      exact rest f listed s a w hc.1 hc.2 h hat j hj

theorem evalDraw_sound (hT : TTok P tt) {E : Env} (hE : E.B.tt = tt) (hnt : E.nt = nt) (hX : ∀ f args os Kr Kp, E.B.W f args os Kr Kp → Wp c.T P tt f args os Kr Kp) (hm : P.follows .mixedOrders = true) {id : Nat} {ops : Array Oper} {s : St} {a : Act} {K : Ex → St → R}
    (h : DrawP E id ops s K) (hat : At tt c nt gg os0 s a w) : (Code.region id ops true).wp P (Post tt c nt gg os0 K) a w := by
  have hk : Kept (fun _ => False) w { w with drawn := w.drawn + 1 } := ⟨rfl, rfl, rfl, Nat.le_refl _, fun _ _ _ => rfl⟩
  rcases h with ⟨m, hm', hB, h⟩ | ⟨p, hsel, hck, h⟩
  case any => exact wp_region_any hm ((evalPlan_sound hT hE hnt hX hsel p).1 _ _ _ _ _ hck h (hat.grown hk))
  simp only [Region.lexTailB, Bool.and_eq_true, decide_eq_true_eq] at hB
  obtain ⟨⟨⟨⟨hsel, hn⟩, hs⟩, hc⟩, hlex⟩ := hB
  have htl : (ops.toList.take m).length = m := by simp; omega
  have hdl : (ops.toList.drop m).length = ops.size - m := by simp
  have inv0 : HeadInv .any ops m (Array.replicate ops.size false) :=
    ⟨by simp, fun j oj _ hl => (by rw [getD_replicate_false] at hl; cases hl), fun t _ ht => getD_in (by simpa using ht) (getD_replicate_false _ _)⟩
  have H := aAnyL_lex (g := ops.size - m) (Lq := fun s' => ∃ s1, Sim s1 s' ∧ evalOps E ops.toList (ops.toList.drop m) m s1 K) (fun s s' hsim ⟨s1, h1, h2⟩ => ⟨s1, h1.trans hsim, h2⟩) hs hc hn (ops.toList.take m) 0 _ s (fun j hj => by
    have hj' : j < m := by rw [htl] at hj; exact hj
    simp [hj']) (by simpa using htl) inv0 (by rw [htl]; exact hlex) (aHead_mono (fun s1 h1 => ⟨s1, .refl _, h1⟩) _ _ (aHead_of_eval _ _ _ h))
  refine wp_region_any hm ?_
  have := aAnyL_wp hT hE hnt hX (Q := Post tt c nt gg os0 K) (g := ops.size - m) (fun listed s' a' w' hL hat' => by
    obtain ⟨hL1, s1, hsim, hL2⟩ := hL
    have := wpAny_of_seq (md := .any) (Q' := Post tt c nt gg os0 K) (ops.toList.drop m) m listed a' w' (fun j => by simp [List.getElem?_drop]) (by rw [hdl]; exact hL1) (evalOps_sound hT hE hnt hX _ _ _ _ _ hL2 (hsim.symm.at hat'))
    rwa [hdl] at this) _ _ _ _ _ H (hat.grown hk)
  rw [htl, show m + (ops.size - m) = ops.size by omega] at this
  exact this

end Go.Proofs.EN
