/- Contracts of functions of this program, by the evaluator EN. No conditions but those that each theorem states. -/
import Derived.Test.YtekcghhacpllaaaGreatDoorEN21
/- Regions. -/
namespace Go.Proofs.EN
open Go
set_option linter.unusedVariables false
set_option linter.unusedSimpArgs false
variable {tt : TypeId → Option TI} {P : Program} {c : Ctx} {w : World} {g : Gh} {os : List Ob} {S : Nat → Prop}

/-- Where a run of the code stands. -/
def At (tt : TypeId → Option TI) (c : Ctx) (nt : Nat) (g0 : Gh) (os0 : List Ob) (s : St) (a : Act) (w : World) : Prop :=
  ∃ g, RepSt tt c w g nt a s ∧ Later g0 os0 g s.objs
def AtP (tt : TypeId → Option TI) (c : Ctx) (g0 : Gh) (os0 : List Ob) (K : C → St → R) (v : Value) (a : Act) (w : World) : Prop :=
  ∃ s g x, Inv tt c w g s.objs ∧ a.defers = c.ds ∧ Later g0 os0 g s.objs ∧ RepC tt w (Now c w g s.objs.length) g s.objs v x ∧ K x s
def Post (tt : TypeId → Option TI) (c : Ctx) (nt : Nat) (g0 : Gh) (os0 : List Ob) (K : Ex → St → R) : Exit → Act → World → Prop
  | .normal, a, w => ∃ s, At tt c nt g0 os0 s a w ∧ K .normal s
  | .exit i, a, w => ∃ s, At tt c nt g0 os0 s a w ∧ K (.exit i) s
  | .ret, a, w => ∃ s, At tt c nt g0 os0 s a w ∧ K .ret s
  | .panic chain, a, w => ∃ v, chain = [{ v, recovered := false }] ∧ AtP tt c g0 os0 (fun x s => K (.panic x) s) v a w
  | _, _, _ => False

variable {nt : Nat} {gg : Gh} {os0 : List Ob}

theorem put_objs (s : St) (dst : Option Tmp) (x : C) : (s.put nt dst x).objs = s.objs := by
  cases dst with
  | none => rfl
  | some t => simp only [St.put]; cases Nat.blt t nt <;> rfl
theorem put_defers (a : Act) (dst : Option Tmp) (v : Value) : (a.put dst v).defers = a.defers := by cases dst <;> rfl
theorem At.put {s : St} {a : Act} (h : At tt c nt gg os0 s a w) (dst : Option Tmp) : At tt c nt gg os0 (s.put nt dst .unw) (a.put dst Go.undef) w := by
  obtain ⟨g, hs, hg⟩ := h
  exact ⟨g, hs.put dst .unw, by rw [put_objs]; exact hg⟩

/-! ### Guards -/
theorem nthO_eq : ∀ (l : List Oper) (j : Nat), nthO l j = l[j]?
  | [], _ => rfl
  | _ :: _, 0 => rfl
  | _ :: r, j + 1 => nthO_eq r j
/-- What a guard is told by the values that there are. -/
def Knows (a : Act) (s : St) : Prop := ∀ t, (∀ b, look t s.tmps = .d (.bool b) → a.tmps.getD t Go.undef = .bool b) ∧ (look t s.tmps = .unw → a.tmps.getD t Go.undef = Go.undef)
theorem RepSt.bools {a : Act} {s : St} (hs : RepSt tt c w g nt a s) : Knows a s := by
  intro t
  have := hs.tmp t
  refine ⟨fun b hb => ?_, fun hb => ?_⟩
  · rw [hb] at this
    exact this.bool_inv
  · rw [hb] at this
    generalize a.tmps.getD t Go.undef = v at this
    cases this
    rfl
theorem guardR_cases {ops : Array Oper} {o : Oper} {s : St} {yes no : R} (h : guardR ops.toList o s yes no) :
    ((∀ y n', y → guardR ops.toList o s y n') ∧ yes ∧ ∀ a : Act, Knows a s → Region.wanted o (yielded ops a.tmps) = true) ∨
    ((∀ y n' : R, n' → guardR ops.toList o s y n') ∧ no ∧ ∀ a : Act, Knows a s → Region.wanted o (yielded ops a.tmps) = false) := by
  unfold guardR at h ⊢
  unfold Region.wanted
  cases hg : o.guard with
  | none =>
    simp only [hg] at h ⊢
    exact .inl ⟨fun _ _ h => h, h, fun _ _ => by first | rfl | trivial⟩
  | some p =>
    obtain ⟨j, want⟩ := p
    have hjj : nthO ops.toList j = ops[j]? := by rw [nthO_eq]; simp
    simp only [hg, hjj] at h ⊢
    cases hj : ops[j]? with
    | none => simp only [hj] at h
    | some oj =>
      simp only [hj] at h ⊢
      cases hd : oj.dst with
      | none => simp only [hd] at h
      | some t =>
        simp only [hd] at h ⊢
        generalize hc : look t s.tmps = ct at h ⊢
        match ct, hc, h with
        | .d (.bool b), hc, h =>
          have hy : ∀ a : Act, Knows a s → yielded ops a.tmps j = some b := by
            intro a hr
            have h1 := (hr t).1 b hc
            have h2 : a.tmps[t]? = some (.bool b) := by
              rcases Nat.lt_or_ge t a.tmps.size with hlt | hge
              · rw [Array.getElem?_eq_getElem hlt]
                simpa [Array.getD, hlt] using h1
              · rw [Array.getD_eq_getD_getElem?, Array.getElem?_eq_none hge] at h1
                cases h1
            simp [yielded, hj, hd, h2]
          cases want <;> cases b
          · exact .inl ⟨fun _ _ h => h, h, fun a hr => by rw [hy a hr]; rfl⟩
          · exact .inr ⟨fun _ _ h => h, h, fun a hr => by rw [hy a hr]; rfl⟩
          · exact .inr ⟨fun _ _ h => h, h, fun a hr => by rw [hy a hr]; rfl⟩
          · exact .inl ⟨fun _ _ h => h, h, fun a hr => by rw [hy a hr]; rfl⟩
        | .unw, hc, h =>
          refine .inr ⟨fun _ _ h => h, h, fun a hr => ?_⟩
          have h1 := (hr t).2 hc
          have hy : yielded ops a.tmps j = none := by
            cases h2 : a.tmps[t]? with
            | none => simp [yielded, hj, hd, h2]
            | some u =>
              rw [Array.getD_eq_getD_getElem?, h2] at h1
              simp only [Option.getD_some] at h1
              subst h1
              simp [yielded, hj, hd, h2, Go.undef]
          rw [hy]
          rfl
theorem splitB_id {g : Bool} {x : C} {K : C → R} (h : splitB g x K) : K x := by
  unfold splitB at h
  split at h
  · rename_i b
    cases b <;> exact h
  · exact h

/-! ### Operations one behind another -/
theorem evalOps_sound (hT : TTok P tt) {E : Env} (hE : E.B.tt = tt) (hnt : E.nt = nt) (hX : ∀ f args os Kr Kp, E.B.W f args os Kr Kp → Wp c.T P tt f args os Kr Kp) {ops : Array Oper} {K : Ex → St → R} : ∀ (l : List Oper) (i : Nat) (s : St) (a : Act) (w : World),
    evalOps E ops.toList l i s K → At tt c nt gg os0 s a w → wpList P ops (Post tt c nt gg os0 K) l a w
  | [], i, s, a, w, h, hs => ⟨s, hs, h⟩
  | o :: rest, i, s, a, w, h, hat => by
    obtain ⟨g, hs, hg⟩ := hat
    simp only [evalOps_cons, putK_eq, hnt] at h
    simp only [wpList]
    rcases guardR_cases h with ⟨_, hy, hw⟩ | ⟨_, hn, hw⟩
    · rw [hw a hs.bools, if_pos rfl]
      refine .inl (evalOp_sound hT hE hX hs hy _ _ (fun v w' hd => ?_) (fun v w' hd => ?_))
      · obtain ⟨cv, s', g', hs', hg', hv, hk⟩ := hd
        exact evalOps_sound hT hE hnt hX rest (i + 1) (s'.put nt o.dst cv) (a.put o.dst v) w' (splitB_id hk) ⟨g', hs'.put o.dst hv, by rw [put_objs]; exact hg.trans hg'.later⟩
      · obtain ⟨cv, s', g', hs', hg', hv, hk⟩ := hd
        exact ⟨v, rfl, s', g', cv, hs'.inv, hs'.dfr, hg.trans hg'.later, hv, hk⟩
    · rw [hw a hs.bools]
      simp only [Bool.false_eq_true, if_false]
      exact evalOps_sound hT hE hnt hX rest (i + 1) _ _ w hn (At.put ⟨g, hs, hg⟩ o.dst)

/-! ### States that are alike -/
def Sim (s s' : St) : Prop := s'.objs = s.objs ∧ ∀ t, look t s'.tmps = look t s.tmps
theorem Sim.refl (s : St) : Sim s s := ⟨rfl, fun _ => rfl⟩
theorem Sim.symm {s s' : St} (h : Sim s s') : Sim s' s := ⟨h.1.symm, fun t => (h.2 t).symm⟩
theorem Sim.trans {s s' s'' : St} (h : Sim s s') (k : Sim s' s'') : Sim s s'' := ⟨k.1.trans h.1, fun t => (k.2 t).trans (h.2 t)⟩
theorem look_put (s : St) (d : Option Tmp) (x : C) (t : Nat) : look t (s.put nt d x).tmps = if d = some t ∧ t < nt then x else look t s.tmps := by
  cases d with
  | none => simp [St.put]
  | some u =>
    simp only [St.put]
    cases hu : Nat.blt u nt with
    | false =>
      have hu' : ¬ u < nt := fun h => by rw [lt_blt h] at hu; cases hu
      simp only [cond_false]
      rw [if_neg]
      rintro ⟨h, h2⟩
      cases h
      exact hu' h2
    | true =>
      have hu' := blt_lt hu
      simp only [cond_true, look_cons]
      cases hq : Nat.beq u t with
      | true =>
        have := Nat.eq_of_beq_eq_true hq
        subst this
        simp [hu']
      | false =>
        have hne : u ≠ t := fun e => by subst e; simp at hq
        simp [hne]
theorem Sim.put {s s' : St} (h : Sim s s') (d : Option Tmp) (x : C) : Sim (s.put nt d x) (s'.put nt d x) := by
  refine ⟨by rw [put_objs, put_objs]; exact h.1, fun t => ?_⟩
  rw [look_put, look_put, h.2 t]
theorem put_comm (s : St) {x y : Option Tmp} (v u : C) (h : ∀ d, x = some d → y ≠ some d) : Sim ((s.put nt x v).put nt y u) ((s.put nt y u).put nt x v) := by
  refine ⟨by simp only [put_objs], fun t => ?_⟩
  simp only [look_put]
  by_cases h1 : x = some t ∧ t < nt
  · have h2 : ¬ (y = some t ∧ t < nt) := fun h2 => h t h1.1 h2.1
    rw [if_pos h1, if_neg h2, if_pos h1]
  · rw [if_neg h1, if_neg h1]
theorem Sim.ev {s s' : St} (h : Sim s s') (y : Operand) : s'.ev y = s.ev y := by
  cases y with
  | tmp t => exact h.2 t
  | _ => rfl
theorem Sim.at {s s' : St} {a : Act} (h : Sim s s') (hat : At tt c nt gg os0 s a w) : At tt c nt gg os0 s' a w := by
  obtain ⟨g, hs, hg⟩ := hat
  refine ⟨g, ⟨by rw [h.1]; exact hs.inv, hs.dfr, hs.len, fun t => ?_⟩, by rw [h.1]; exact hg⟩
  rw [h.1, h.2 t]
  exact hs.tmp t

/-! ### Regions that draw their order -/
section
variable {E : Env} {ops : Array Oper}
def YA (E : Env) (ops : Array Oper) (o : Oper) (cv : C) (s : St) : Prop := guardR ops.toList o s (valOp E o s fun x => x = cv) (cv = .unw)
def aOp (E : Env) (ops : Array Oper) (i : Nat) (K : St → Prop) (s : St) : Prop :=
  match ops[i]? with
  | none => K s
  | some o => ∃ cv, YA E ops o cv s ∧ K (s.put E.nt o.dst cv)
theorem aOp_mono {i : Nat} {s : St} {K K' : St → Prop} (h : ∀ s, K s → K' s) (hh : aOp E ops i K s) : aOp E ops i K' s := by
  unfold aOp at *
  split
  · rename_i hi
    rw [hi] at hh
    exact h _ hh
  · rename_i o hi
    rw [hi] at hh
    obtain ⟨cv, h1, h2⟩ := hh
    exact ⟨cv, h1, h _ h2⟩
/-- It hangs on what is looked at alone. -/
theorem YA_congr {o : Oper} {cv : C} {s s' : St} (ho : s'.objs = s.objs) (h : ∀ t, t ∈ o.looksAt ops → look t s'.tmps = look t s.tmps) : YA E ops o cv s' ↔ YA E ops o cv s := by
  have hop : ∀ y ∈ o.op.operands, s'.ev y = s.ev y := fun y hy => by
    cases y with
    | tmp t =>
      refine h t ?_
      simp only [Oper.looksAt, List.mem_append, List.mem_filterMap]
      exact .inl ⟨_, by simpa using hy, rfl⟩
    | _ => rfl
  unfold YA
  rw [valOp_congr E o ho hop]
  unfold guardR
  cases hg : o.guard with
  | none => rfl
  | some p =>
    obtain ⟨j, want⟩ := p
    have hjj : nthO ops.toList j = ops[j]? := by rw [nthO_eq]; simp
    simp only [hjj]
    cases hj : ops[j]? with
    | none => rfl
    | some oj =>
      simp only []
      cases hd : oj.dst with
      | none => rfl
      | some t =>
        simp only []
        rw [h t (by
          simp only [Oper.looksAt, List.mem_append, hg, hj]
          exact .inr (by simp [hd]))]
theorem YA_put {o : Oper} {cv x : C} {s : St} {d : Option Tmp} (h : ∀ t, d = some t → t ∉ o.looksAt ops) : YA E ops o cv (s.put nt d x) ↔ YA E ops o cv s :=
  YA_congr (put_objs s d x) fun t ht => by
    rw [look_put, if_neg]
    exact fun ⟨e, _⟩ => h t e ht
theorem YA_sim {o : Oper} {cv : C} {s s' : St} (h : Sim s s') : YA E ops o cv s' ↔ YA E ops o cv s := YA_congr h.1 fun t _ => h.2 t
theorem aOp_sim {i : Nat} {K : St → Prop} (hK : ∀ s s', Sim s s' → K s → K s') {s s' : St} (h : Sim s s') (hh : aOp E ops i K s) : aOp E ops i K s' := by
  unfold aOp at *
  split
  · rename_i hi
    rw [hi] at hh
    exact hK _ _ h hh
  · rename_i o hi
    rw [hi] at hh
    obtain ⟨cv, h1, h2⟩ := hh
    exact ⟨cv, (YA_sim h).2 h1, hK _ _ (h.put _ _) h2⟩
theorem aOp_put {j : Nat} {oi oj : Oper} {cv : C} (hj : ops[j]? = some oj) (hap : oi.apart ops oj = true) {K : St → Prop} (hK : ∀ s s', Sim s s' → K s → K s') {s : St} (hy : YA E ops oi cv s) (h : aOp E ops j K (s.put E.nt oi.dst cv)) :
    aOp E ops j (fun s' => YA E ops oi cv s' ∧ K (s'.put E.nt oi.dst cv)) s := by
  obtain ⟨h1, h2, h3⟩ := Oper.apart_spec hap
  unfold aOp at *
  simp only [hj] at *
  obtain ⟨cj, hyj, hk⟩ := h
  exact ⟨cj, (YA_put h1).1 hyj, (YA_put h3).2 hy, hK _ _ (put_comm s cv cj h2) hk⟩
theorem YA.aOp {i : Nat} {oi : Oper} {cv : C} (hi : ops[i]? = some oi) {s : St} (hy : YA E ops oi cv s) {K : St → Prop} (h : K (s.put E.nt oi.dst cv)) : aOp E ops i K s := by
  unfold EN.aOp
  rw [hi]
  exact ⟨cv, hy, h⟩

def aAnyL (E : Env) (ops : Array Oper) (n : Nat) (L : Array Bool → St → Prop) : Nat → Array Bool → St → Prop
  | 0, listed, s => L listed s
  | f + 1, listed, s => Region.ready .any ops listed ≠ [] ∧ ∀ i ∈ Region.ready .any ops listed, i < n ∧ aOp E ops i (aAnyL E ops n L f (listed.setIfInBounds i true)) s
theorem aAnyL_sim {n : Nat} {L : Array Bool → St → Prop} (hL : ∀ listed s s', Sim s s' → L listed s → L listed s') : ∀ (f : Nat) (listed : Array Bool) (s s' : St), Sim s s' → aAnyL E ops n L f listed s → aAnyL E ops n L f listed s'
  | 0, listed, s, s', h, hh => hL _ _ _ h hh
  | f + 1, listed, s, s', h, hh => ⟨hh.1, fun i hi => ⟨(hh.2 i hi).1, aOp_sim (fun s s' h hk => aAnyL_sim hL f _ s s' h hk) h (hh.2 i hi).2⟩⟩
theorem aAnyL_first {n i : Nat} {oi : Oper} {cv : C} {L : Array Bool → St → Prop} (hLs : ∀ listed s s', Sim s s' → L listed s → L listed s') (hi : ops[i]? = some oi) (hs : Region.sinkB .any ops n = true) (hc : Region.chainB .any ops n = true) (hn : n < ops.size) (hin : i < n)
    (hdone : ∀ listed s, L listed s → ∀ j ∈ Region.ready .any ops listed, n ≤ j) :
    ∀ (f : Nat) (listed : Array Bool) (s : St), HeadInv .any ops n listed →
      (∀ j oj, ops[j]? = some oj → j ≠ i → listed.getD j true = false → (∀ e ∈ oj.after, Region.binds .any e = true → e.on ≠ i) → oi.apart ops oj = true) →
      i ∈ Region.ready .any ops listed → YA E ops oi cv s →
      aAnyL E ops n L f (listed.setIfInBounds i true) (s.put E.nt oi.dst cv) → aAnyL E ops n L (f + 1) listed s := by
  intro f
  induction f with
  | zero =>
    intro listed s inv _ hr hy H
    have hun := (mem_ready.1 hr).1
    refine ⟨fun h => (by rw [h] at hr; cases hr), fun j hj => ?_⟩
    have hjn : j < n := by
      rcases Nat.lt_or_ge j n with h | h
      · exact h
      · exact absurd hj (tail_waits hs hc hn inv _ i rfl hin hun j h)
    refine ⟨hjn, ?_⟩
    by_cases hji : j = i
    · subst hji; exact hy.aOp hi H
    · have := hdone _ _ H j (ready_mono hj hji)
      omega
  | succ f ih =>
    intro listed s inv hfree hr hy H
    have hun := (mem_ready.1 hr).1
    refine ⟨fun h => (by rw [h] at hr; cases hr), fun j hj => ?_⟩
    have hjn : j < n := by
      rcases Nat.lt_or_ge j n with h | h
      · exact h
      · exact absurd hj (tail_waits hs hc hn inv _ i rfl hin hun j h)
    refine ⟨hjn, ?_⟩
    by_cases hji : j = i
    · subst hji; exact hy.aOp hi H
    · have h1 := (H.2 j (ready_mono hj hji)).2
      obtain ⟨hjun, oj, hoj, hall⟩ := mem_ready.1 hj
      have hnot : ∀ e ∈ oj.after, Region.binds .any e = true → e.on ≠ i := fun e he hb heq => by
        have h1 := hall e he hb
        rw [heq, getD_both hun] at h1
        cases h1
      have h2 := aOp_put hoj (hfree j oj hoj hji hjun hnot) (fun s s' h hk => aAnyL_sim hLs f _ s s' h hk) hy h1
      have hfree' : ∀ k ok, ops[k]? = some ok → k ≠ i → (listed.setIfInBounds j true).getD k true = false →
          (∀ e ∈ ok.after, Region.binds .any e = true → e.on ≠ i) → oi.apart ops ok = true := fun k ok hk hki hun hno => by
        refine hfree k ok hk hki ?_ hno
        by_cases hjk : j = k
        · subst hjk; exact hjun
        · rw [getD_set_ne true hjk] at hun; exact hun
      refine aOp_mono (fun s' h3 => ih (listed.setIfInBounds j true) s' (inv.set hj hjn) hfree' (ready_mono hr (Ne.symm hji)) h3.1 ?_) h2
      rw [Array.setIfInBounds_comm _ _ hji]
      exact h3.2

def aHead (E : Env) (ops : Array Oper) (Lq : St → Prop) : List Oper → St → Prop
  | [], s => Lq s
  | o :: r, s => ∃ cv, YA E ops o cv s ∧ aHead E ops Lq r (s.put E.nt o.dst cv)
theorem aHead_of_eval {Lq : St → R} : ∀ (l : List Oper) (i : Nat) (s : St), evalHead E ops.toList l i s Lq → aHead E ops Lq l s
  | [], _, _, h => h
  | o :: r, i, s, h => by
    simp only [evalHead_cons, putK_eq] at h
    rcases guardR_cases h with ⟨hall, hy, _⟩ | ⟨hall, hn, _⟩
    · obtain ⟨cv, hk, hp⟩ := valOp_para E o s _ hy
      exact ⟨cv, hall _ _ (hp _ rfl), aHead_of_eval r (i + 1) _ (splitB_id hk)⟩
    · exact ⟨.unw, hall _ _ rfl, aHead_of_eval r (i + 1) _ hn⟩
theorem aAnyL_lex {n g : Nat} {Lq : St → Prop} (hLq : ∀ s s', Sim s s' → Lq s → Lq s') (hs : Region.sinkB .any ops n = true) (hc : Region.chainB .any ops n = true) (hn : n < ops.size) :
    ∀ (l : List Oper) (k : Nat) (listed : Array Bool) (s : St), (∀ j, j < l.length → l[j]? = ops[k + j]?) → k + l.length = n → HeadInv .any ops n listed →
    Region.lexHead .any ops g l.length k listed = true → aHead E ops Lq l s →
    aAnyL E ops n (fun listed' s' => Region.seqB .any ops g n listed' = true ∧ Lq s') l.length listed s
  | [], k, listed, s, _, hk, _, hB, h => by
    have : k = n := by simpa using hk
    subst this
    exact ⟨by simpa [Region.lexHead] using hB, h⟩
  | o :: l, k, listed, s, hl, hk, inv, hB, h => by
    have h0 : ops[k]? = some o := by simpa using (hl 0 (by simp)).symm
    simp only [List.length_cons, Region.lexHead, Bool.and_eq_true] at hB
    obtain ⟨⟨hr, hf⟩, hB'⟩ := hB
    have hkn : k < n := by simp only [List.length_cons] at hk; omega
    have hr' : k ∈ Region.ready .any ops listed := by simpa using hr
    obtain ⟨cv, hy, hK⟩ := h
    exact aAnyL_first (fun listed s s' hsim hL => ⟨hL.1, hLq s s' hsim hL.2⟩) h0 hs hc hn hkn (fun listed' s' hL => seqB_ready hL.1) l.length listed s inv (Region.free_spec h0 hf) hr' hy
      (aAnyL_lex hLq hs hc hn l (k + 1) _ _ (fun j hj => by have := hl (j + 1) (by simp; omega); simpa [Nat.add_assoc, Nat.add_comm 1 j] using this) (by simp only [List.length_cons] at hk; omega) (inv.set hr' hkn) hB' hK)
end
theorem aHead_mono {E : Env} {ops : Array Oper} {L L' : St → Prop} (h : ∀ s, L s → L' s) : ∀ (l : List Oper) (s : St), aHead E ops L l s → aHead E ops L' l s
  | [], s, hh => h s hh
  | o :: r, s, ⟨cv, h1, h2⟩ => ⟨cv, h1, aHead_mono h r _ h2⟩

theorem aOp_wp (hT : TTok P tt) {E : Env} (hE : E.B.tt = tt) (hnt : E.nt = nt) (hX : ∀ f args os Kr Kp, E.B.W f args os Kr Kp → Wp c.T P tt f args os Kr Kp) {ops : Array Oper} {Q : Exit → Act → World → Prop} {i : Nat} {s : St} {a : Act} {w : World} {K : St → Prop} {K' : Act → World → Prop}
    (h : aOp E ops i K s) (hat : At tt c nt gg os0 s a w) (hk : ∀ s' a' w', K s' → At tt c nt gg os0 s' a' w' → K' a' w') : wpOp P ops Q i K' a w := by
  unfold aOp at h
  unfold wpOp
  cases hi : ops[i]? with
  | none => rw [hi] at h; exact hk s a w h hat
  | some o =>
    rw [hi] at h
    obtain ⟨cv, hy, hK⟩ := h
    rw [hnt] at hK
    obtain ⟨g, hs, hg⟩ := hat
    simp only []
    rcases guardR_cases hy with ⟨_, hy, hw⟩ | ⟨_, hn, hw⟩
    · rw [hw a hs.bools, if_pos rfl]
      refine .inl (valOp_sound hT hE hX hs hy _ _ (fun v w' hd => ?_) (fun v w' hd => ?_))
      · obtain ⟨cv', s', g', hs', hg', hv, rfl, rfl⟩ := hd
        exact hk _ _ w' hK ⟨g', hs'.put o.dst hv, by rw [put_objs]; exact hg.trans hg'.later⟩
      · obtain ⟨cv', s', g', hs', hg', hv, hf⟩ := hd
        exact hf.elim
    · rw [hw a hs.bools]
      simp only [Bool.false_eq_true, if_false]
      rw [hn] at hK
      exact hk _ _ w hK (At.put ⟨g, hs, hg⟩ o.dst)
theorem aAnyL_wp (hT : TTok P tt) {E : Env} (hE : E.B.tt = tt) (hnt : E.nt = nt) (hX : ∀ f args os Kr Kp, E.B.W f args os Kr Kp → Wp c.T P tt f args os Kr Kp) {ops : Array Oper} {Q : Exit → Act → World → Prop} {m g : Nat} {L : Array Bool → St → Prop}
    (hL : ∀ listed s a w, L listed s → At tt c nt gg os0 s a w → wpAny P .any ops Q g listed a w) :
    ∀ (f : Nat) (listed : Array Bool) (s : St) (a : Act) (w : World), aAnyL E ops m L f listed s → At tt c nt gg os0 s a w → wpAny P .any ops Q (f + g) listed a w
  | 0, listed, s, a, w, h, hat => by rw [Nat.zero_add]; exact hL _ _ _ _ h hat
  | f + 1, listed, s, a, w, h, hat => by
    rw [show f + 1 + g = (f + g) + 1 by omega]
    exact ⟨fun h0 => absurd h0 h.1, fun i hi => aOp_wp hT hE hnt hX (h.2 i hi).2 hat fun s' a' w' hk hat' => aAnyL_wp hT hE hnt hX hL f _ s' a' w' hk hat'⟩

theorem At.grown {s : St} {a : Act} (h : At tt c nt gg os0 s a w) {w' : World} (hk : Kept (fun _ => False) w w') : At tt c nt gg os0 s a w' := by
  obtain ⟨g, hs, hg⟩ := h
  exact ⟨g, (hs.grown hk).1, hg⟩

theorem firstFree_some {ops : Array Oper} {listed : Array Bool} : ∀ {l : List Nat} {i : Nat}, firstFree ops listed l = some i → i ∈ l ∧ ∃ o, ops[i]? = some o ∧ isFree o = true ∧ Region.free .any ops listed i = true
  | [], i, h => by cases h
  | j :: r, i, h => by
    simp only [firstFree] at h
    split at h
    · rename_i o ho
      cases hc : isFree o && Region.free .any ops listed j with
      | true =>
        simp only [hc, cond_true, Option.some.injEq] at h
        subst h
        simp only [Bool.and_eq_true] at hc
        exact ⟨by simp, o, ho, hc.1, hc.2⟩
      | false =>
        simp only [hc, cond_false] at h
        obtain ⟨h1, h2⟩ := firstFree_some h
        exact ⟨List.mem_cons_of_mem _ h1, h2⟩
    · obtain ⟨h1, h2⟩ := firstFree_some h
      exact ⟨List.mem_cons_of_mem _ h1, h2⟩
theorem freeOp_sound {o : Oper} {a : Act} {s : St} {Kv : C → R} (hs : RepSt tt c w g nt a s) (h : freeOp o s Kv) :
    ∃ v cv, (∀ w, (execOp a.eval o).run P w = .ok (.value v) w) ∧ RepC tt w (Now c w g s.objs.length) g s.objs v cv ∧ Kv cv := by
  unfold freeOp at h
  split at h
  · rename_i x hop
    exact ⟨a.eval x, s.ev x, fun w => by simp only [execOp, hop]; rfl, hs.ev x, h⟩
  · rename_i x hop
    exact ⟨a.eval x, s.ev x, fun w => by simp only [execOp, hop]; rfl, hs.ev x, h⟩
  · rename_i cc x y hop
    have hc := hs.ev cc
    split at h
    · rename_i b hb
      rw [hb] at hc
      have hc := hc.bool_inv
      cases b with
      | true => exact ⟨a.eval x, s.ev x, fun w => by simp [execOp, hop, hc, asBool], hs.ev x, h⟩
      | false => exact ⟨a.eval y, s.ev y, fun w => by simp [execOp, hop, hc, asBool], hs.ev y, h⟩
    · cases h
  · cases h

theorem eqNs_eq : ∀ {a b : List Nat}, eqNs a b = true → a = b
  | [], [], _ => rfl
  | a :: x, b :: y, h => by
    simp only [eqNs, Bool.and_eq_true] at h
    rw [Nat.eq_of_beq_eq_true h.1, eqNs_eq h.2]
theorem evalPlan_sound (hT : TTok P tt) {E : Env} (hE : E.B.tt = tt) (hnt : E.nt = nt) (hX : ∀ f args os Kr Kp, E.B.W f args os Kr Kp → Wp c.T P tt f args os Kr Kp) {ops : Array Oper} (hsel : Region.noSelect ops = true) {K : Ex → St → R} (p : Plan) :
    (∀ (f : Nat) (listed : Array Bool) (s : St) (a : Act) (w : World), chk ops p f listed true = true → evalPlan E ops.toList K p s → At tt c nt gg os0 s a w → wpAny P .any ops (Post tt c nt gg os0 K) f listed a w) ∧
    (∀ (f : Nat) (listed : Array Bool) (s : St) (a : Act) (w : World), chk ops p (f + 1) listed false = true → evalPlan E ops.toList K p s → At tt c nt gg os0 s a w → ∀ i, i ∈ p.alts → wpOp P ops (Post tt c nt gg os0 K) i (wpAny P .any ops (Post tt c nt gg os0 K) f (listed.setIfInBounds i true)) a w) := by
  induction p with
  | done =>
    refine ⟨fun f listed s a w hc h hat => ?_, fun f listed s a w hc h hat i hi => by cases hi⟩
    simp only [chk, Bool.true_and, List.isEmpty_iff] at hc
    cases f with
    | zero => exact ⟨hc, s, hat, h⟩
    | succ f => exact wpAny_done hc ⟨s, hat, h⟩ (f + 1)
  | stop => exact ⟨fun f listed s a w hc h hat => by simp [chk] at hc, fun f listed s a w hc h hat i hi => by cases hi⟩
  | free i p ih =>
    refine ⟨fun f listed s a w hc h hat => ?_, fun f listed s a w hc h hat i hi => by cases hi⟩
    simp only [chk, Bool.true_and, Bool.and_eq_true] at hc
    obtain ⟨h0, hf, hc⟩ := hc
    obtain ⟨f, rfl⟩ : ∃ g, f = g + 1 := ⟨f - 1, (Nat.succ_pred_eq_of_pos (by simpa [Nat.blt_eq] using h0)).symm⟩
    have hff : firstFree ops listed (Region.ready .any ops listed) = some i := by
      unfold isSm at hf
      split at hf
      · rename_i j hj
        rw [hj, Nat.eq_of_beq_eq_true hf]
      · cases hf
    obtain ⟨hi, o, ho, hfree, hfr⟩ := firstFree_some hff
    have h : (match nthO ops.toList i with
      | some o => guardR ops.toList o s (freeOp o s fun c => splitB (guards i ops.toList) c fun c' => s.putK E.nt o.dst c' fun s' => evalPlan E ops.toList K p s') (s.putK E.nt o.dst .unw fun s' => evalPlan E ops.toList K p s')
      | none => False) := h
    rw [nthO_eq, Array.getElem?_toList, ho] at h
    simp only [putK_eq, hnt] at h
    have hQ : ∀ v c' a' w', Post tt c nt gg os0 K (.panic c') (a'.put o.dst v) w' → Post tt c nt gg os0 K (.panic c') a' w' := by
      rintro v c' a' w' ⟨u, hch, s', g', x, h1, h2, h3, h4, h5⟩
      rw [put_defers] at h2
      exact ⟨u, hch, s', g', x, h1, h2, h3, h4, h5⟩
    have hrd : (Region.ready .any ops listed).contains i = true := by simpa using hi
    obtain ⟨g, hs, hg⟩ := hat
    rcases guardR_cases h with ⟨_, hy, hw⟩ | ⟨_, hn, hw⟩
    · obtain ⟨v, cv, hrun, hv, hk⟩ := freeOp_sound (P := P) hs hy
      exact wpAny_take ho hsel hfr hrd (hQ v) (.inl ⟨hw a hs.bools, hrun⟩) (ih.1 f _ _ _ w hc (splitB_id hk) ⟨g, hs.put o.dst hv, by rw [put_objs]; exact hg⟩)
    · exact wpAny_take ho hsel hfr hrd (hQ Go.undef) (.inr ⟨hw a hs.bools, rfl⟩) (ih.1 f _ _ _ w hc hn (At.put ⟨g, hs, hg⟩ o.dst))
  | more i p q ihp ihq =>
    have key : ∀ (f : Nat) (listed : Array Bool) (s : St) (a : Act) (w : World), chk ops p f (listed.setIfInBounds i true) true = true → evalPlan E ops.toList K (.more i p q) s → At tt c nt gg os0 s a w → wpOp P ops (Post tt c nt gg os0 K) i (wpAny P .any ops (Post tt c nt gg os0 K) f (listed.setIfInBounds i true)) a w := by
      intro f listed s a w hc h hat
      obtain ⟨h1, _⟩ : PAnd (match nthO ops.toList i with
        | some o => guardR ops.toList o s (evalOp E o s (fun c s' => splitB (guards i ops.toList) c fun c' => s'.putK E.nt o.dst c' fun s' => evalPlan E ops.toList K p s') (fun c s' => K (.panic c) s')) (s.putK E.nt o.dst .unw fun s' => evalPlan E ops.toList K p s')
        | none => False) (evalPlan E ops.toList K q s) := h
      rw [nthO_eq, Array.getElem?_toList] at h1
      obtain ⟨g, hs, hg⟩ := hat
      unfold wpOp
      split at h1
      · rename_i o ho
        simp only [putK_eq, hnt] at h1
        simp only [ho]
        rcases guardR_cases h1 with ⟨_, hy, hw⟩ | ⟨_, hn, hw⟩
        · rw [hw a hs.bools, if_pos rfl]
          refine .inl (evalOp_sound hT hE hX hs hy _ _ (fun v w' hd => ?_) (fun v w' hd => ?_))
          · obtain ⟨cv, s', g', hs', hg', hv, hk⟩ := hd
            exact ihp.1 f _ _ _ w' hc (splitB_id hk) ⟨g', hs'.put o.dst hv, by rw [put_objs]; exact hg.trans hg'.later⟩
          · obtain ⟨cv, s', g', hs', hg', hv, hk⟩ := hd
            exact ⟨v, rfl, s', g', cv, hs'.inv, hs'.dfr, hg.trans hg'.later, hv, hk⟩
        · rw [hw a hs.bools]
          simp only [Bool.false_eq_true, if_false]
          exact ihp.1 f _ _ _ w hc hn (At.put ⟨g, hs, hg⟩ o.dst)
      · cases h1
    have rest : ∀ (f : Nat) (listed : Array Bool) (s : St) (a : Act) (w : World), chk ops p f (listed.setIfInBounds i true) true = true → chk ops q (f + 1) listed false = true → evalPlan E ops.toList K (.more i p q) s → At tt c nt gg os0 s a w →
        ∀ j, j ∈ i :: q.alts → wpOp P ops (Post tt c nt gg os0 K) j (wpAny P .any ops (Post tt c nt gg os0 K) f (listed.setIfInBounds j true)) a w := by
      intro f listed s a w hc hq h hat j hj
      rcases List.mem_cons.1 hj with rfl | hj
      · exact key f listed s a w hc h hat
      · obtain ⟨_, h2⟩ := h
        exact ihq.2 f listed s a w hq h2 hat j hj
    refine ⟨fun f listed s a w hc h hat => ?_, fun f listed s a w hc h hat j hj => ?_⟩
    · simp only [chk, Bool.not_true, Bool.false_or, Bool.and_eq_true] at hc
      obtain ⟨⟨h0, hr⟩, hc, hq⟩ := hc
      obtain ⟨f, rfl⟩ : ∃ g, f = g + 1 := ⟨f - 1, (Nat.succ_pred_eq_of_pos (by simpa [Nat.blt_eq] using h0)).symm⟩
      exact wpAny_all (eqNs_eq hr) (by simp) fun j hj => rest f listed s a w hc hq h hat j hj
    · simp only [chk, Bool.not_false, Bool.true_or, Bool.true_and, Bool.and_eq_true] at hc
      exact rest f listed s a w hc.1 hc.2 h hat j hj

/-! ### Values that are taken ahead -/
theorem memN_iff (i : Nat) : ∀ is : List Nat, memN i is = true ↔ i ∈ is
  | [] => by simp [memN]
  | j :: is => by
    have : memN i (j :: is) = bif Nat.beq i j then true else memN i is := rfl
    rw [this]
    cases h : Nat.beq i j with
    | true => simp [Nat.eq_of_beq_eq_true h]
    | false =>
      have hne : i ≠ j := fun e => by subst e; simp at h
      simp [memN_iff i is, hne]
theorem memN_no {i : Nat} {is : List Nat} : memN i is = false ↔ i ∉ is := by
  rw [← memN_iff i is]; simp
theorem lay_cons (f : Nat → Bool) (p : Ah) (B : List Ah) (ts : List (Nat × C)) : layA' f (p :: B) ts = bif f p.i then layA' f B ((p.t, p.c) :: ts) else layA' f B ts := rfl
theorem look_lay_out {f : Nat → Bool} {t : Nat} : ∀ {B : List Ah} {ts : List (Nat × C)}, (∀ p ∈ B, f p.i = true → p.t ≠ t) → look t (layA' f B ts) = look t ts
  | [], ts, _ => rfl
  | p :: B, ts, h => by
    rw [lay_cons]
    cases hf : f p.i with
    | false => exact look_lay_out fun q hq => h q (List.mem_cons_of_mem _ hq)
    | true =>
      rw [cond_true, look_lay_out fun q hq => h q (List.mem_cons_of_mem _ hq), look_cons]
      cases hb : Nat.beq p.t t with
      | true => exact absurd (Nat.eq_of_beq_eq_true hb) (h p (by simp) hf)
      | false => rfl
theorem look_lay_in {f : Nat → Bool} : ∀ {B : List Ah} {ts : List (Nat × C)} {p : Ah}, p ∈ B → f p.i = true → (B.map (·.t)).Nodup → look p.t (layA' f B ts) = p.c
  | q :: B, ts, p, hp, hf, hn => by
    rw [List.map_cons, List.nodup_cons] at hn
    rw [lay_cons]
    rcases List.mem_cons.1 hp with rfl | hp
    · rw [hf, cond_true, look_lay_out (fun r hr _ e => hn.1 (by rw [← e]; exact List.mem_map_of_mem hr)), look_cons]
      simp
    · cases f q.i with
      | true => exact look_lay_in hp hf hn.2
      | false => exact look_lay_in hp hf hn.2
theorem landK_eq (f : Nat → Bool) (B : List Ah) (s : St) (K : St → R) : landK f B s K = K ⟨layA' f B s.tmps, s.objs⟩ := rfl
theorem dropK_eq (is : List Nat) : ∀ (B : List Ah) (K : List Ah → R), dropK is B K = K (B.filter fun p => !memN p.i is)
  | [], K => rfl
  | p :: B, K => by
    have : dropK is (p :: B) K = bif memN p.i is then dropK is B K else dropK is B fun r => K (p :: r) := rfl
    rw [this]
    cases h : memN p.i is with
    | true => rw [cond_true, dropK_eq is B]; simp [h]
    | false => rw [cond_false, dropK_eq is B]; simp [h]
theorem isU_eq {c : C} (h : isU c = true) : c = .undef := by cases c <;> first | rfl | cases h
theorem maskB_at : ∀ {B : List Ah} {ts : List (Nat × C)}, maskB B ts = true → ∀ p ∈ B, look p.t ts = .undef
  | q :: B, ts, h, p, hp => by
    have h : (isU (look q.t ts) && maskB B ts) = true := h
    rw [Bool.and_eq_true] at h
    rcases List.mem_cons.1 hp with rfl | hp
    · exact isU_eq h.1
    · exact maskB_at h.2 p hp
/-- What was taken ahead would still be so. -/
def Claim (E : Env) (ops : Array Oper) (B0 : List Ah) (s : St) (p : Ah) : Prop :=
  ∃ o, ops[p.i]? = some o ∧ ∀ Kv : C → R, Kv p.c → valOp E o ⟨layA' (fun i => memN i p.deps) B0 s.tmps, s.objs⟩ Kv
theorem recheck_claims {E : Env} {ops : Array Oper} {B0 : List Ah} {s : St} {K : R} : ∀ {B : List Ah}, recheckK E ops.toList B0 s K B → (∀ p ∈ B, Claim E ops B0 s p) ∧ K
  | [], h => ⟨fun p hp => (by cases hp), h⟩
  | q :: B, h => by
    have h : (match nthO ops.toList q.i with
      | some o => landK (fun i => memN i q.deps) B0 s fun sr => valOp E o sr fun c' => c' = q.c ∧ recheckK E ops.toList B0 s K B
      | none => False) := h
    rw [nthO_eq, Array.getElem?_toList] at h
    split at h
    · rename_i o ho
      rw [landK_eq] at h
      obtain ⟨c, ⟨hc, hr⟩, hall⟩ := valOp_para _ _ _ _ h
      obtain ⟨h1, h2⟩ := recheck_claims hr
      refine ⟨fun p hp => ?_, h2⟩
      rcases List.mem_cons.1 hp with rfl | hp
      · exact ⟨o, ho, fun Kv hk => hall Kv (by rw [hc]; exact hk)⟩
      · exact h1 p hp
    · cases h
def Lst (L : Array Bool) (i : Nat) : Prop := L.getD i true = true ∧ i < L.size
theorem mem_preds {ops : Array Oper} {i j : Nat} : j ∈ predsOf ops i ↔ ∃ o, ops[i]? = some o ∧ ∃ e ∈ o.after, Region.binds .any e = true ∧ e.on = j := by
  unfold predsOf
  split
  · rename_i o ho
    simp only [List.mem_filterMap, Array.mem_toList_iff, ho, Option.some.injEq, exists_eq_left']
    constructor
    · rintro ⟨e, he, h⟩
      cases hb : Region.binds .any e with
      | false => rw [hb] at h; cases h
      | true => rw [hb] at h; cases h; exact ⟨e, he, hb, rfl⟩
    · rintro ⟨e, he, hb, rfl⟩
      exact ⟨e, he, by rw [hb]; rfl⟩
  · rename_i ho
    simp [ho]
theorem lst_getD {L : Array Bool} {i : Nat} : L.getD i false = true ↔ Lst L i := by
  unfold Lst
  simp only [Array.getD_eq_getD_getElem?]
  by_cases h : i < L.size
  · simp [h]
  · simp [h]
theorem ready_iff {ops : Array Oper} {L : Array Bool} (hL : L.size = ops.size) {i : Nat} : i ∈ Region.ready .any ops L ↔ i < ops.size ∧ ¬ Lst L i ∧ ∀ j ∈ predsOf ops i, Lst L j := by
  unfold Region.ready
  simp only [List.mem_filter, List.mem_range, Bool.and_eq_true, Bool.not_eq_true']
  constructor
  · rintro ⟨h1, h2, h3⟩
    refine ⟨h1, fun ⟨h, _⟩ => (by rw [h2] at h; cases h), fun j hj => ?_⟩
    obtain ⟨o, ho, e, he, hb, rfl⟩ := mem_preds.1 hj
    rw [ho] at h3
    simp only [Option.map_some, Option.getD_some, Array.all_eq_true_iff_forall_mem, Bool.or_eq_true, Bool.not_eq_true'] at h3
    rcases h3 e he with h | h
    · rw [hb] at h; cases h
    · exact lst_getD.1 h
  · rintro ⟨h1, h2, h3⟩
    refine ⟨h1, ?_, ?_⟩
    · cases h : L.getD i true with
      | false => rfl
      | true => exact absurd ⟨h, by omega⟩ h2
    · rw [Array.getElem?_eq_getElem h1]
      simp only [Option.map_some, Option.getD_some, Array.all_eq_true_iff_forall_mem, Bool.or_eq_true, Bool.not_eq_true']
      intro e he
      cases hb : Region.binds .any e with
      | false => exact .inl rfl
      | true => exact .inr (lst_getD.2 (h3 _ (mem_preds.2 ⟨_, Array.getElem?_eq_getElem h1, e, he, hb, rfl⟩)))
theorem lst_set {L : Array Bool} {i j : Nat} (hi : i < L.size) : Lst (L.setIfInBounds i true) j ↔ j = i ∨ Lst L j := by
  unfold Lst
  simp only [Array.getD_eq_getD_getElem?, Array.size_setIfInBounds, Array.getElem?_setIfInBounds]
  by_cases h : i = j
  · subst h; simp [hi]
  · simp [h, Ne.symm h]
theorem nodupN_of : ∀ {l : List Nat}, nodupN l = true → l.Nodup
  | [], _ => .nil
  | a :: r, h => by
    simp only [nodupN, Bool.and_eq_true, Bool.not_eq_true'] at h
    exact List.nodup_cons.2 ⟨memN_no.1 h.1, nodupN_of h.2⟩
theorem dst_inj {f : Oper → Option Nat} : ∀ {l : List Oper}, (l.filterMap f).Nodup → ∀ {i j : Nat} {x y : Oper} {t : Nat}, l[i]? = some x → l[j]? = some y → f x = some t → f y = some t → i = j
  | [], _, i, j, x, y, t, hx, _, _, _ => by simp at hx
  | z :: l, hn, i, j, x, y, t, hx, hy, h1, h2 => by
    have hn' : (l.filterMap f).Nodup := by
      rw [List.filterMap_cons] at hn
      split at hn
      · exact hn
      · exact (List.nodup_cons.1 hn).2
    have no : ∀ {k : Nat} {u : Oper}, f z = some t → l[k]? = some u → f u = some t → False := fun {k u} hz hk hu => by
      rw [List.filterMap_cons, hz] at hn
      exact (List.nodup_cons.1 hn).1 (List.mem_filterMap.2 ⟨u, List.mem_of_getElem? hk, hu⟩)
    cases i with
    | zero =>
      simp only [List.getElem?_cons_zero, Option.some.injEq] at hx
      subst hx
      cases j with
      | zero => rfl
      | succ j => exact (no h1 (by simpa using hy) h2).elim
    | succ i =>
      cases j with
      | zero =>
        simp only [List.getElem?_cons_zero, Option.some.injEq] at hy
        subst hy
        exact (no h2 (by simpa using hx) h1).elim
      | succ j => exact congrArg (· + 1) (dst_inj hn' (i := i) (j := j) (by simpa using hx) (by simpa using hy) h1 h2)
structure OkA (ops : Array Oper) : Prop where
  guard : ∀ (i : Nat) o, ops[i]? = some o → o.guard = none
  inj : ∀ (i j : Nat) x y t, ops[i]? = some x → ops[j]? = some y → x.dst = some t → y.dst = some t → i = j
  low : ∀ i, i < ops.size → ∀ j ∈ predsOf ops i, j < i
theorem okA_of {ops : Array Oper} (h : okA ops = true) : OkA ops := by
  simp only [okA, Bool.and_eq_true, List.all_eq_true, List.mem_range] at h
  obtain ⟨h1, h2, h3⟩ := h
  refine ⟨fun i o ho => ?_, fun i j x y t hx hy => dst_inj (nodupN_of h2) (by simpa using hx) (by simpa using hy), fun i hi j hj => ?_⟩
  · have := h1 o (List.mem_of_getElem? (by rw [Array.getElem?_toList]; exact ho))
    simpa using this
  · exact blt_lt (h3 i hi j hj)
theorem look_lay_cases {f : Nat → Bool} {B : List Ah} {ts : List (Nat × C)} (hn : (B.map (·.t)).Nodup) (t : Nat) :
    (∃ p ∈ B, f p.i = true ∧ p.t = t ∧ look t (layA' f B ts) = p.c) ∨ ((∀ p ∈ B, f p.i = true → p.t ≠ t) ∧ look t (layA' f B ts) = look t ts) := by
  by_cases h : ∃ p ∈ B, f p.i = true ∧ p.t = t
  · obtain ⟨p, hp, hf, rfl⟩ := h
    exact .inl ⟨p, hp, hf, rfl, look_lay_in hp hf hn⟩
  · have h' : ∀ p ∈ B, f p.i = true → p.t ≠ t := fun p hp hf e => h ⟨p, hp, hf, e⟩
    exact .inr ⟨h', look_lay_out h'⟩
theorem relook {f f' : Nat → Bool} {B : List Ah} {ts : List (Nat × C)} (hn : (B.map (·.t)).Nodup) (hm : ∀ p ∈ B, look p.t ts = .undef) (hf : ∀ p ∈ B, f p.i = true → f' p.i = true) (t : Nat) :
    look t (layA' f B ts) = look t (layA' f' B ts) ∨ look t (layA' f B ts) = .undef := by
  rcases look_lay_cases (f := f) (ts := ts) hn t with ⟨p, hp, h1, rfl, h2⟩ | ⟨h1, h2⟩
  · exact .inl (h2.trans (look_lay_in hp (hf p hp h1) hn).symm)
  · by_cases hq : ∃ q ∈ B, q.t = t
    · obtain ⟨q, hq, rfl⟩ := hq
      exact .inr (h2.trans (hm q hq))
    · refine .inl (h2.trans (look_lay_out fun p hp _ e => hq ⟨p, hp, e⟩).symm)
theorem RepSt.relook {a : Act} {s s' : St} {nt : Nat} (hs : RepSt tt c w g nt a s) (ho : s'.objs = s.objs) (h : ∀ t, look t s'.tmps = look t s.tmps ∨ look t s'.tmps = .undef) : RepSt tt c w g nt a s' := by
  obtain ⟨ts', os'⟩ := s'
  simp only at ho h
  subst ho
  refine ⟨hs.inv, hs.dfr, hs.len, fun t => ?_⟩
  rcases h t with h | h
  · show RepC _ _ _ _ _ _ (look t ts'); rw [h]; exact hs.tmp t
  · show RepC _ _ _ _ _ _ (look t ts'); rw [h]; exact .undef _
theorem put_getD_ne {a : Act} {d : Option Tmp} {v : Value} {t : Nat} (h : d ≠ some t) : (a.put d v).tmps.getD t Go.undef = a.tmps.getD t Go.undef := by
  cases d with
  | none => rfl
  | some u =>
    have hne : u ≠ t := fun e => h (by rw [e])
    simp only [Act.put, Array.getD_eq_getD_getElem?, Array.getElem?_setIfInBounds]
    rw [if_neg hne]
/-- How far a region is, and what was taken ahead. -/
structure RelA (tt : TypeId → Option TI) (c : Ctx) (nt : Nat) (gg : Gh) (os0 : List Ob) (E : Env) (ops : Array Oper) (B : List Ah) (D L : Array Bool) (s : St) (a : Act) (w : World) : Prop where
  ds : D.size = ops.size
  ls : L.size = ops.size
  sub : ∀ i, Lst L i → Lst D i
  pend : ∀ i, Lst D i → ¬ Lst L i → ∃ p ∈ B, p.i = i
  closed : ∀ i, Lst L i → ∀ j ∈ predsOf ops i, Lst L j
  inD : ∀ p ∈ B, Lst D p.i
  claim : ∀ p ∈ B, Claim E ops B s p
  mask : ∀ p ∈ B, look p.t s.tmps = .undef
  at_ : ∀ p ∈ B, ∃ o, ops[p.i]? = some o ∧ o.dst = some p.t
  lt : ∀ p ∈ B, p.t < nt
  deps : ∀ p ∈ B, ∀ j ∈ p.deps, j ∈ predsOf ops p.i ∧ Lst D j
  nodt : (B.map (·.t)).Nodup
  nodi : (B.map (·.i)).Nodup
  rep : ∃ g, RepSt tt c w g nt a ⟨layA' (fun i => L.getD i false) B s.tmps, s.objs⟩ ∧ Later gg os0 g s.objs
theorem pend_step (hT : TTok P tt) {E : Env} (hE : E.B.tt = tt) (hX : ∀ f args os Kr Kp, E.B.W f args os Kr Kp → Wp c.T P tt f args os Kr Kp) {ops : Array Oper} (hok : OkA ops) {Q : Exit → Act → World → Prop} {N : Act → World → Prop} {B : List Ah} {D L : Array Bool} {s : St} {a : Act} {w : World}
    (R : RelA tt c nt gg os0 E ops B D L s a w) {p : Ah} (hp : p ∈ B) (hr : p.i ∈ Region.ready .any ops L) (hN : ∀ a' w', RelA tt c nt gg os0 E ops B D (L.setIfInBounds p.i true) s a' w' → N a' w') : wpOp P ops Q p.i N a w := by
  obtain ⟨hlt, hnl, hpre⟩ := (ready_iff R.ls).1 hr
  obtain ⟨o, ho, hall⟩ := R.claim p hp
  obtain ⟨o', ho', hdst⟩ := R.at_ p hp
  obtain rfl : o = o' := by rw [ho] at ho'; exact Option.some.inj ho'
  obtain ⟨g, hs, hg⟩ := R.rep
  have hsd : RepSt tt c w g nt a ⟨layA' (fun i => memN i p.deps) B s.tmps, s.objs⟩ := hs.relook rfl fun t =>
    relook (f := fun i => memN i p.deps) (f' := fun i => L.getD i false) (ts := s.tmps) R.nodt R.mask (fun q hq hf => lst_getD.2 (hpre _ (R.deps p hp _ ((memN_iff _ _).1 hf)).1)) t
  unfold wpOp
  simp only [ho]
  rw [if_pos (by simp [Region.wanted, hok.guard _ _ ho])]
  refine .inl (valOp_sound hT hE hX hsd (hall (fun c' => c' = p.c) rfl) _ _ (fun v w' hd => ?_) (fun v w' hd => ?_))
  · obtain ⟨cv, s', g', hs', st, hv, rfl, rfl⟩ := hd
    refine hN _ _ ⟨R.ds, by simp [R.ls], fun i hi => ?_, fun i h1 h2 => R.pend i h1 fun h => h2 ((lst_set (by rw [R.ls]; exact hlt)).2 (.inr h)), fun i hi j hj => ?_, R.inD, R.claim, R.mask, R.at_, R.lt, R.deps, R.nodt, R.nodi, g', ⟨hs'.inv, ?_, ?_, fun t => ?_⟩, hg.trans st.later⟩
    · rcases (lst_set (by rw [R.ls]; exact hlt)).1 hi with rfl | hi
      · exact R.inD p hp
      · exact R.sub i hi
    · refine (lst_set (by rw [R.ls]; exact hlt)).2 (.inr ?_)
      rcases (lst_set (by rw [R.ls]; exact hlt)).1 hi with rfl | hi
      · exact hpre j hj
      · exact R.closed i hi j hj
    · rw [put_defers]; exact hs.dfr
    · exact (hs'.put o.dst hv).len
    · by_cases ht : t = p.t
      · subst ht
        have h1 := (hs'.put o.dst hv).tmp p.t
        have hnt : p.t < nt := R.lt p hp
        rw [look_put, if_pos ⟨hdst, hnt⟩] at h1
        rw [look_lay_in hp (lst_getD.2 ((lst_set (by rw [R.ls]; exact hlt)).2 (.inl rfl))) R.nodt]
        exact (by simpa [put_objs] using h1)
      · rw [put_getD_ne (by rw [hdst]; intro e; exact ht (Option.some.inj e).symm)]
        have h1 := st.rep (hs.tmp t)
        have e : look t (layA' (fun i => (L.setIfInBounds p.i true).getD i false) B s.tmps) = look t (layA' (fun i => L.getD i false) B s.tmps) := by
          rcases look_lay_cases (f := fun i => L.getD i false) (ts := s.tmps) R.nodt t with ⟨q, hq, h2, rfl, h3⟩ | ⟨h2, h3⟩
          · rw [h3]
            exact look_lay_in hq (lst_getD.2 ((lst_set (by rw [R.ls]; exact hlt)).2 (.inr (lst_getD.1 h2)))) R.nodt
          · rw [h3]
            refine look_lay_out fun q hq h4 e => ?_
            rcases (lst_set (by rw [R.ls]; exact hlt)).1 (lst_getD.1 h4) with h5 | h5
            · obtain ⟨o2, h6, h7⟩ := R.at_ q hq
              rw [h5, ho] at h6
              cases h6
              rw [hdst] at h7
              exact ht (by rw [← e]; exact (Option.some.inj h7).symm)
            · exact h2 q hq (lst_getD.2 h5) e
        show RepC _ _ _ _ _ _ (look t _)
        rw [e]
        exact h1
  · obtain ⟨cv', s', g', hs', hg', hv, hf⟩ := hd
    exact hf.elim
def cntL (L : Array Bool) : Nat := L.toList.count true
theorem cntL_set {L : Array Bool} {i : Nat} (hi : i < L.size) (h : ¬ Lst L i) : cntL (L.setIfInBounds i true) = cntL L + 1 := by
  unfold cntL
  have hf : L[i] = false := by
    cases hb : L[i] with
    | false => rfl
    | true => exact absurd ⟨by simp [Array.getD_eq_getD_getElem?, hi, hb], hi⟩ h
  rw [Array.toList_setIfInBounds, List.count_set (by simpa using hi)]
  simp [hf]
theorem all_of_cntL {L : Array Bool} (h : cntL L = L.size) {i : Nat} (hi : i < L.size) : Lst L i := by
  have h1 := List.count_eq_length.1 (show L.toList.count true = L.toList.length by unfold cntL at h; rw [h]; simp) (L.toList[i]'(by simpa using hi)) (List.getElem_mem _)
  refine ⟨?_, hi⟩
  simp only [Array.getD_eq_getD_getElem?, hi, Array.getElem?_eq_getElem, Option.getD_some]
  simpa using h1.symm
theorem ready_nil {ops : Array Oper} (hok : OkA ops) {L : Array Bool} (hL : L.size = ops.size) (h : Region.ready .any ops L = []) : ∀ i, i < ops.size → Lst L i := by
  intro i
  induction i using Nat.strongRecOn with
  | ind i ih =>
    intro hi
    by_cases hl : Lst L i
    · exact hl
    · have : i ∈ Region.ready .any ops L := (ready_iff hL).2 ⟨hi, hl, fun j hj => ih j (hok.low i hi j hj) (Nat.lt_trans (hok.low i hi j hj) hi)⟩
      rw [h] at this
      cases this
theorem goneB_sub {ops : Array Oper} {L : Array Bool} (hcl : ∀ i, Lst L i → ∀ j ∈ predsOf ops i, Lst L j) : ∀ {gone acc : List Nat}, goneB ops acc gone = true → (∀ j ∈ acc, Lst L j) → ∀ j ∈ gone, Lst L j
  | [], acc, _, _ => fun j hj => by cases hj
  | x :: r, acc, h, ha => by
    simp only [goneB, Bool.and_eq_true] at h
    have hx := ha x ((memN_iff _ _).1 h.1)
    intro j hj
    rcases List.mem_cons.1 hj with rfl | hj
    · exact hx
    · exact goneB_sub hcl h.2 (fun k hk => by
        rcases List.mem_append.1 hk with hk | hk
        · exact hcl x hx k hk
        · exact ha k hk) j hj
theorem wpAny_done0 {ops : Array Oper} {Q : Exit → Act → World → Prop} {L : Array Bool} {a : Act} {w : World} (h : Region.ready .any ops L = []) (hq : Q .normal a w) : ∀ f, wpAny P .any ops Q f L a w
  | 0 => ⟨h, hq⟩
  | f + 1 => ⟨fun _ => hq, fun i hi => by rw [h] at hi; cases hi⟩
theorem evalA_sound (hT : TTok P tt) {E : Env} (hE : E.B.tt = tt) (hnt : E.nt = nt) (hX : ∀ f args os Kr Kp, E.B.W f args os Kr Kp → Wp c.T P tt f args os Kr Kp) {ops : Array Oper} (hok : OkA ops) {K : Ex → St → R} (p : PlanA) :
    (∀ (f : Nat) (B : List Ah) (D L : Array Bool) (s : St) (a : Act) (w : World), chkA ops p (B.map (·.i)) D true = true → evalA E ops.toList K p B s → RelA tt c nt gg os0 E ops B D L s a w → f + cntL L = ops.size → wpAny P .any ops (Post tt c nt gg os0 K) f L a w) ∧
    (∀ (f : Nat) (B : List Ah) (D L : Array Bool) (s : St) (a : Act) (w : World), chkA ops p (B.map (·.i)) D false = true → evalA E ops.toList K p B s → RelA tt c nt gg os0 E ops B D L s a w → f + 1 + cntL L = ops.size →
      ∀ i, i ∈ p.alts → i ∈ Region.ready .any ops L → ¬ Lst D i → wpOp P ops (Post tt c nt gg os0 K) i (wpAny P .any ops (Post tt c nt gg os0 K) f (L.setIfInBounds i true)) a w) := by
  induction p with
  | done =>
    refine ⟨fun f B D L s a w hc h R hf => ?_, fun f B D L s a w hc h R hf i hi => by cases hi⟩
    simp only [chkA, Bool.true_and, Bool.and_eq_true, List.isEmpty_iff] at hc
    obtain ⟨hB, hD⟩ := hc
    obtain rfl : B = [] := by simpa using hB
    have hall := ready_nil hok R.ds hD
    have hL : Region.ready .any ops L = [] := by
      rw [List.eq_nil_iff_forall_not_mem]
      intro i hi
      obtain ⟨h1, h2, _⟩ := (ready_iff R.ls).1 hi
      obtain ⟨p, hp, _⟩ := R.pend i (hall i h1) h2
      cases hp
    exact wpAny_done0 hL ⟨s, R.rep, h⟩ f
  | stop => exact ⟨fun f B D L s a w hc h R hf => by simp [chkA] at hc, fun f B D L s a w hc h R hf i hi => by cases hi⟩
  | ahead i deps p ih =>
    refine ⟨fun f B D L s a w hc h R hf => ?_, fun f B D L s a w hc h R hf i hi => by cases hi⟩
    simp only [chkA, Bool.true_and, Bool.and_eq_true, Bool.not_eq_true'] at hc
    obtain ⟨hr, hd, hdB, hnd, hnB, hc⟩ := hc
    obtain ⟨h1, h2, h3⟩ := (ready_iff R.ds).1 ((memN_iff _ _).1 hr)
    have hnB := memN_no.1 hnB
    have h : (match nthO ops.toList i with
      | some o => match o.dst with
        | some t => bif Nat.blt t E.nt && isU (look t s.tmps) then landK (fun j => memN j deps) B s fun sr => valOp E o sr fun c => c.sq fun c => evalA E ops.toList K p (⟨i, t, deps, c⟩ :: B) s else False
        | none => False
      | none => False) := h
    rw [nthO_eq, Array.getElem?_toList] at h
    split at h
    · rename_i o ho
      split at h
      · rename_i t hdst
        obtain ⟨hcond, h⟩ := bif_some h
        simp only [Bool.and_eq_true] at hcond
        obtain ⟨ht, hu⟩ := hcond
        rw [hnt] at ht
        rw [landK_eq] at h
        obtain ⟨cv, hk, hall⟩ := valOp_para _ _ _ _ h
        rw [C.sq_eq] at hk
        have hlay : ∀ (f : Nat → Bool) (ts : List (Nat × C)), f i = false → layA' f (⟨i, t, deps, cv⟩ :: B) ts = layA' f B ts := fun f ts hf => by rw [lay_cons]; simp [hf]
        refine ih.1 f (⟨i, t, deps, cv⟩ :: B) _ L s a w hc hk ⟨by simp [R.ds], R.ls, fun j hj => (lst_set (by rw [R.ds]; exact h1)).2 (.inr (R.sub j hj)), fun j hj hn => ?_, R.closed, fun q hq => ?_, fun q hq => ?_, fun q hq => ?_, fun q hq => ?_, fun q hq => ?_, fun q hq => ?_, ?_, ?_, ?_⟩ hf
        · rcases (lst_set (by rw [R.ds]; exact h1)).1 hj with e | hj
          · exact ⟨⟨i, t, deps, cv⟩, List.mem_cons_self, e.symm⟩
          · obtain ⟨q, hq, e⟩ := R.pend j hj hn
            exact ⟨q, List.mem_cons_of_mem _ hq, e⟩
        · rcases List.mem_cons.1 hq with rfl | hq
          · exact (lst_set (by rw [R.ds]; exact h1)).2 (.inl rfl)
          · exact (lst_set (by rw [R.ds]; exact h1)).2 (.inr (R.inD q hq))
        · rcases List.mem_cons.1 hq with rfl | hq
          · exact ⟨o, ho, fun Kv hkv => by rw [hlay _ _ hnd]; exact hall Kv hkv⟩
          · obtain ⟨o', ho', hall'⟩ := R.claim q hq
            refine ⟨o', ho', fun Kv hkv => ?_⟩
            have hno : memN i q.deps = false := memN_no.2 fun hm => h2 (R.deps q hq i hm).2
            rw [hlay _ _ hno]
            exact hall' Kv hkv
        · rcases List.mem_cons.1 hq with rfl | hq
          · exact isU_eq hu
          · exact R.mask q hq
        · rcases List.mem_cons.1 hq with rfl | hq
          · exact ⟨o, ho, hdst⟩
          · exact R.at_ q hq
        · rcases List.mem_cons.1 hq with rfl | hq
          · exact blt_lt ht
          · exact R.lt q hq
        · rcases List.mem_cons.1 hq with rfl | hq
          · intro j hj
            simp only [subN, List.all_eq_true] at hd hdB
            refine ⟨(memN_iff _ _).1 (hd j hj), (lst_set (by rw [R.ds]; exact h1)).2 (.inr ?_)⟩
            obtain ⟨q, hq, e⟩ := List.mem_map.1 ((memN_iff _ _).1 (hdB j hj))
            exact e ▸ R.inD q hq
          · exact fun j hj => ⟨(R.deps q hq j hj).1, (lst_set (by rw [R.ds]; exact h1)).2 (.inr (R.deps q hq j hj).2)⟩
        · rw [List.map_cons, List.nodup_cons]
          refine ⟨fun hm => ?_, R.nodt⟩
          obtain ⟨q, hq, e⟩ := List.mem_map.1 hm
          obtain ⟨o2, ho2, hd2⟩ := R.at_ q hq
          have := hok.inj _ _ _ _ _ ho ho2 hdst (hd2.trans (by rw [e]))
          exact hnB (this ▸ List.mem_map_of_mem hq)
        · rw [List.map_cons, List.nodup_cons]
          exact ⟨hnB, R.nodi⟩
        · rw [hlay _ _ (by
            cases hl : L.getD i false with
            | false => rfl
            | true => exact absurd (R.sub i (lst_getD.1 hl)) h2)]
          exact R.rep
      · cases h
    · cases h
  | more i gone p q ihp ihq =>
    have step : ∀ (f : Nat) (B : List Ah) (D L : Array Bool) (s : St) (a : Act) (w : World), goneB ops (predsOf ops i) gone = true → chkA ops p ((B.map (·.i)).filter fun j => !memN j gone) (D.setIfInBounds i true) true = true → evalA E ops.toList K (.more i gone p q) B s → RelA tt c nt gg os0 E ops B D L s a w → f + 1 + cntL L = ops.size →
        i ∈ Region.ready .any ops L → ¬ Lst D i → wpOp P ops (Post tt c nt gg os0 K) i (wpAny P .any ops (Post tt c nt gg os0 K) f (L.setIfInBounds i true)) a w := by
      intro f B D L s a w hgone hc h R hf hi hnD
      obtain ⟨hlt, hnl, hpre⟩ := (ready_iff R.ls).1 hi
      obtain ⟨h1, _⟩ : PAnd (match nthO ops.toList i with
        | some o => landK (fun j => memN j gone) B s fun s1 => dropK gone B fun B' =>
          evalOp E o s1 (fun c s' => s'.putK E.nt o.dst c fun s2 => bif maskB B' s2.tmps then recheckK E ops.toList B' s2 (evalA E ops.toList K p B' s2) B' else False) (fun c s' => K (.panic c) s')
        | none => False) (evalA E ops.toList K q B s) := h
      rw [nthO_eq, Array.getElem?_toList] at h1
      split at h1
      · rename_i o ho
        rw [landK_eq, dropK_eq] at h1
        simp only [putK_eq, hnt] at h1
        have hgl := goneB_sub R.closed hgone hpre
        obtain ⟨g, hs, hg⟩ := R.rep
        have hs1 : RepSt tt c w g nt a ⟨layA' (fun j => memN j gone) B s.tmps, s.objs⟩ := hs.relook rfl fun t =>
          relook (f := fun j => memN j gone) (f' := fun i => L.getD i false) (ts := s.tmps) R.nodt R.mask (fun q hq hf => lst_getD.2 (hgl _ ((memN_iff _ _).1 hf))) t
        unfold wpOp
        simp only [ho]
        rw [if_pos (by simp [Region.wanted, hok.guard _ _ ho])]
        refine .inl (evalOp_sound hT hE hX hs1 h1 _ _ (fun v w' hd => ?_) (fun v w' hd => ?_))
        · obtain ⟨cv, s', g', hs', st, hv, hk⟩ := hd
          obtain ⟨hmask, hk⟩ := bif_some hk
          obtain ⟨hclaims, hk⟩ := recheck_claims hk
          have hmem : ∀ {r : Ah}, r ∈ B.filter (fun p => !memN p.i gone) → r ∈ B ∧ r.i ∉ gone := fun {r} hr => by
            obtain ⟨h1, h2⟩ := List.mem_filter.1 hr
            exact ⟨h1, memN_no.1 (by simpa using h2)⟩
          have hnt' : (List.map (·.t) (B.filter fun p => !memN p.i gone)).Nodup := R.nodt.sublist (List.filter_sublist.map _)
          have hni' : (List.map (·.i) (B.filter fun p => !memN p.i gone)).Nodup := R.nodi.sublist (List.filter_sublist.map _)
          refine ihp.1 f _ (D.setIfInBounds i true) (L.setIfInBounds i true) _ _ w' (by rw [List.filter_map] at hc; exact hc) hk ⟨by simp [R.ds], by simp [R.ls], fun j hj => ?_, fun j hj hn => ?_, fun j hj k hk => ?_, fun r hr => ?_, hclaims, maskB_at hmask, fun r hr => R.at_ r (hmem hr).1, fun r hr => R.lt r (hmem hr).1, fun r hr j hj => ⟨(R.deps r (hmem hr).1 j hj).1, (lst_set (by rw [R.ds]; exact hlt)).2 (.inr (R.deps r (hmem hr).1 j hj).2)⟩, hnt', hni', g', ⟨?_, ?_, ?_, fun t => ?_⟩, ?_⟩ (by rw [cntL_set (by rw [R.ls]; exact hlt) hnl]; omega)
          · rcases (lst_set (by rw [R.ls]; exact hlt)).1 hj with rfl | hj
            · exact (lst_set (by rw [R.ds]; exact hlt)).2 (.inl rfl)
            · exact (lst_set (by rw [R.ds]; exact hlt)).2 (.inr (R.sub j hj))
          · have hn' : j ≠ i ∧ ¬ Lst L j := ⟨fun e => hn ((lst_set (by rw [R.ls]; exact hlt)).2 (.inl e)), fun e => hn ((lst_set (by rw [R.ls]; exact hlt)).2 (.inr e))⟩
            rcases (lst_set (by rw [R.ds]; exact hlt)).1 hj with e | hj
            · exact absurd e hn'.1
            · obtain ⟨r, hr, e⟩ := R.pend j hj hn'.2
              refine ⟨r, List.mem_filter.2 ⟨hr, ?_⟩, e⟩
              have : memN r.i gone = false := memN_no.2 fun hm => hn'.2 (e ▸ hgl _ hm)
              simp [this]
          · refine (lst_set (by rw [R.ls]; exact hlt)).2 (.inr ?_)
            rcases (lst_set (by rw [R.ls]; exact hlt)).1 hj with rfl | hj
            · exact hpre k hk
            · exact R.closed j hj k hk
          · exact (lst_set (by rw [R.ds]; exact hlt)).2 (.inr (R.inD r (hmem hr).1))
          · have := (hs'.put o.dst hv).inv
            rwa [put_objs] at this ⊢
          · exact (hs'.put o.dst hv).dfr
          · exact (hs'.put o.dst hv).len
          · have hbase := (hs'.put o.dst hv).tmp t
            show RepC _ _ _ _ _ _ (look t _)
            rcases look_lay_cases (f := fun i_1 => (L.setIfInBounds i true).getD i_1 false) (ts := (s'.put nt o.dst cv).tmps) hnt' t with ⟨r, hr, h2, rfl, h3⟩ | ⟨h2, h3⟩
            · rw [h3]
              obtain ⟨hrB, hrg⟩ := hmem hr
              have hri : r.i ≠ i := fun e => hnD (e ▸ R.inD r hrB)
              have hrL : Lst L r.i := by
                rcases (lst_set (by rw [R.ls]; exact hlt)).1 (lst_getD.1 h2) with e | e
                · exact absurd e hri
                · exact e
              obtain ⟨o2, ho2, hd2⟩ := R.at_ r hrB
              rw [put_getD_ne (fun e => hri (hok.inj _ _ _ _ _ ho2 ho hd2 e))]
              have h4 := st.rep (hs.tmp r.t)
              have h5 : look r.t (layA' (fun i => L.getD i false) B s.tmps) = r.c := look_lay_in hrB (lst_getD.2 hrL) R.nodt
              have h4 : RepC tt w' (Now c w' g' s'.objs.length) g' s'.objs (a.tmps.getD r.t Go.undef) (look r.t (layA' (fun i => L.getD i false) B s.tmps)) := h4
              rw [h5] at h4
              simpa [put_objs] using h4
            · rw [h3]
              exact hbase
          · rw [put_objs]; exact hg.trans st.later
        · obtain ⟨cv, s', g', hs', st, hv, hk⟩ := hd
          exact ⟨v, rfl, s', g', cv, hs'.inv, hs'.dfr, hg.trans st.later, hv, hk⟩
      · cases h1
    have rest : ∀ (f : Nat) (B : List Ah) (D L : Array Bool) (s : St) (a : Act) (w : World), goneB ops (predsOf ops i) gone = true → chkA ops p ((B.map (·.i)).filter fun j => !memN j gone) (D.setIfInBounds i true) true = true → chkA ops q (B.map (·.i)) D false = true → evalA E ops.toList K (.more i gone p q) B s → RelA tt c nt gg os0 E ops B D L s a w → f + 1 + cntL L = ops.size →
        ∀ j, j ∈ i :: q.alts → j ∈ Region.ready .any ops L → ¬ Lst D j → wpOp P ops (Post tt c nt gg os0 K) j (wpAny P .any ops (Post tt c nt gg os0 K) f (L.setIfInBounds j true)) a w := by
      intro f B D L s a w hgone hc hq h R hf j hj hr hn
      rcases List.mem_cons.1 hj with rfl | hj
      · exact step f B D L s a w hgone hc h R hf hr hn
      · obtain ⟨_, h2⟩ := h
        exact ihq.2 f B D L s a w hq h2 R hf j hj hr hn
    refine ⟨fun f => ?_, fun f B D L s a w hc h R hf j hj hr hn => ?_⟩
    · induction f with
      | zero =>
        intro B D L s a w hc h R hf
        exfalso
        simp only [chkA, Bool.not_true, Bool.false_or, Bool.and_eq_true] at hc
        have hi : i ∈ Region.ready .any ops D := by rw [eqNs_eq hc.1]; simp
        obtain ⟨h1, h2, _⟩ := (ready_iff R.ds).1 hi
        exact h2 (R.sub i (all_of_cntL (by have := R.ls; omega) (by rw [R.ls]; exact h1)))
      | succ f ihf =>
        intro B D L s a w hc h R hf
        have hc0 := hc
        simp only [chkA, Bool.not_true, Bool.false_or, Bool.and_eq_true] at hc
        obtain ⟨hr, hgone, hcp, hcq⟩ := hc
        have hi : i ∈ Region.ready .any ops D := by rw [eqNs_eq hr]; simp
        obtain ⟨h1, h2, _⟩ := (ready_iff R.ds).1 hi
        refine ⟨fun hnil => ?_, fun j hj => ?_⟩
        · exact absurd (R.sub i (ready_nil hok R.ls hnil i h1)) h2
        · obtain ⟨j1, j2, j3⟩ := (ready_iff R.ls).1 hj
          by_cases hD : Lst D j
          · obtain ⟨r, hrB, rfl⟩ := R.pend j hD j2
            exact pend_step hT hE hX hok R hrB hj fun a' w' R' => ihf B D _ s a' w' hc0 h R' (by rw [cntL_set (by rw [R.ls]; exact j1) j2]; omega)
          · have hjD : j ∈ Region.ready .any ops D := (ready_iff R.ds).2 ⟨j1, hD, fun k hk => R.sub k (j3 k hk)⟩
            rw [eqNs_eq hr] at hjD
            exact rest f B D L s a w hgone hcp hcq h R hf j hjD hj hD
    · simp only [chkA, Bool.not_false, Bool.true_or, Bool.true_and, Bool.and_eq_true] at hc
      exact rest f B D L s a w hc.1 hc.2.1 hc.2.2 h R hf j hj hr hn
theorem look_masks (ms : List Nat) (t : Nat) (ts : List (Nat × C)) : look t (masksT ms ts) = look t ts ∨ look t (masksT ms ts) = .undef := by
  induction ms with
  | nil => exact .inl rfl
  | cons m ms ih =>
    have : masksT (m :: ms) ts = (m, .undef) :: masksT ms ts := rfl
    rw [this, look_cons]
    cases Nat.beq m t with
    | true => exact .inr rfl
    | false => exact ih
theorem look_canon (live : List Nat) (t : Nat) (ts : List (Nat × C)) : look t (canonT live ts) = look t ts ∨ look t (canonT live ts) = .undef := by
  induction live with
  | nil => exact .inr rfl
  | cons m ms ih =>
    have : canonT (m :: ms) ts = (m, look m ts) :: canonT ms ts := rfl
    rw [this, look_cons]
    cases h : Nat.beq m t with
    | true => exact .inl (by rw [cond_true, Nat.eq_of_beq_eq_true h])
    | false => exact ih
theorem evalDraw_sound (hT : TTok P tt) {E : Env} (hE : E.B.tt = tt) (hnt : E.nt = nt) (hX : ∀ f args os Kr Kp, E.B.W f args os Kr Kp → Wp c.T P tt f args os Kr Kp) (hm : P.follows .mixedOrders = true) {id : Nat} {ops : Array Oper} {s : St} {a : Act} {K : Ex → St → R}
    (h : DrawP E id ops s K) (hat : At tt c nt gg os0 s a w) : (Code.region id ops true).wp P (Post tt c nt gg os0 K) a w := by
  have hk : Kept (fun _ => False) w { w with drawn := w.drawn + 1 } := ⟨rfl, rfl, rfl, Nat.le_refl _, fun _ _ _ => rfl⟩
  rcases h with ⟨m, hm', hB, h⟩ | ⟨p, hsel, hck, h⟩ | ⟨ms, p, h1, hck, h⟩ | ⟨ms, live, p, s1, h1, hck, h, hkk⟩
  case any => exact wp_region_any hm ((evalPlan_sound hT hE hnt hX hsel p).1 _ _ _ _ _ hck h (hat.grown hk))
  case ahead =>
    obtain ⟨g, hs, hg⟩ := hat.grown hk
    have hs0 : RepSt tt c { w with drawn := w.drawn + 1 } g nt a ⟨masksT ms s.tmps, s.objs⟩ := hs.relook rfl fun t => look_masks ms t s.tmps
    have hz : ∀ i, ¬ Lst (Array.replicate ops.size false) i := fun i ⟨h1, h2⟩ => by
      rw [Array.size_replicate] at h2
      simp [Array.getD_eq_getD_getElem?, h2] at h1
    refine wp_region_any hm ((evalA_sound hT hE hnt hX (okA_of h1) p).1 _ [] _ _ _ _ _ hck h ⟨by simp, by simp, fun i hi => hi, fun i hi hn => absurd hi hn, fun i hi => absurd hi (hz i), fun p hp => (by cases hp), fun p hp => (by cases hp), fun p hp => (by cases hp), fun p hp => (by cases hp), fun p hp => (by cases hp), fun p hp => (by cases hp), List.nodup_nil, List.nodup_nil, g, hs0, hg⟩ ?_)
    have : cntL (Array.replicate ops.size false) = 0 := by simp [cntL, List.count_replicate]
    omega
  case join =>
    obtain ⟨g, hs, hg⟩ := hat.grown hk
    have hs0 : RepSt tt c { w with drawn := w.drawn + 1 } g nt a ⟨masksT ms s.tmps, s.objs⟩ := hs.relook rfl fun t => look_masks ms t s.tmps
    have hz : ∀ i, ¬ Lst (Array.replicate ops.size false) i := fun i ⟨h1, h2⟩ => by
      rw [Array.size_replicate] at h2
      simp [Array.getD_eq_getD_getElem?, h2] at h1
    have hpost : ∀ e a w, Post tt c nt gg os0 (joinK live s1 K) e a w → Post tt c nt gg os0 K e a w := fun e a w hq => by
      cases e with
      | normal =>
        obtain ⟨s2, ⟨g2, hs2, hg2⟩, hk2⟩ := hq
        simp only [joinK, sqT_eq, sqO_eq] at hk2
        subst hk2
        exact ⟨⟨canonT live s2.tmps, s2.objs⟩, ⟨g2, hs2.relook (s' := ⟨canonT live s2.tmps, s2.objs⟩) rfl fun t => look_canon live t s2.tmps, hg2⟩, hkk⟩
      | exit i => exact hq
      | ret => exact hq
      | panic ch => exact hq
      | goto l => exact hq.elim
      | outgrown => exact hq.elim
    refine wp_mono (wp_region_any hm ((evalA_sound hT hE hnt hX (okA_of h1) p).1 _ [] _ _ _ _ _ hck h ⟨by simp, by simp, fun i hi => hi, fun i hi hn => absurd hi hn, fun i hi => absurd hi (hz i), fun p hp => (by cases hp), fun p hp => (by cases hp), fun p hp => (by cases hp), fun p hp => (by cases hp), fun p hp => (by cases hp), fun p hp => (by cases hp), List.nodup_nil, List.nodup_nil, g, hs0, hg⟩ ?_)) hpost
    have : cntL (Array.replicate ops.size false) = 0 := by simp [cntL, List.count_replicate]
    omega
  simp only [Region.lexTailB, Bool.and_eq_true, decide_eq_true_eq] at hB
  obtain ⟨⟨⟨⟨hsel, hn⟩, hs⟩, hc⟩, hlex⟩ := hB
  have htl : (ops.toList.take m).length = m := by simp; omega
  have hdl : (ops.toList.drop m).length = ops.size - m := by simp
  have inv0 : HeadInv .any ops m (Array.replicate ops.size false) :=
    ⟨by simp, fun j oj _ hl => (by rw [getD_replicate_false] at hl; cases hl), fun t _ ht => getD_in (by simpa using ht) (getD_replicate_false _ _)⟩
  have H := aAnyL_lex (g := ops.size - m) (Lq := fun s' => ∃ s1, Sim s1 s' ∧ evalOps E ops.toList (ops.toList.drop m) m s1 K) (fun s s' hsim ⟨s1, h1, h2⟩ => ⟨s1, h1.trans hsim, h2⟩) hs hc hn (ops.toList.take m) 0 _ s (fun j hj => by
    have hj' : j < m := by rw [htl] at hj; exact hj
    simp [hj']) (by simpa using htl) inv0 (by rw [htl]; exact hlex) (aHead_mono (fun s1 h1 => ⟨s1, .refl _, h1⟩) _ _ (aHead_of_eval _ _ _ h))
  refine wp_region_any hm ?_
  have := aAnyL_wp hT hE hnt hX (Q := Post tt c nt gg os0 K) (g := ops.size - m) (fun listed s' a' w' hL hat' => by
    obtain ⟨hL1, s1, hsim, hL2⟩ := hL
    have := wpAny_of_seq (md := .any) (Q' := Post tt c nt gg os0 K) (ops.toList.drop m) m listed a' w' (fun j => by simp [List.getElem?_drop]) (by rw [hdl]; exact hL1) (evalOps_sound hT hE hnt hX _ _ _ _ _ hL2 (hsim.symm.at hat'))
    rwa [hdl] at this) _ _ _ _ _ H (hat.grown hk)
  rw [htl, show m + (ops.size - m) = ops.size by omega] at this
  exact this

end Go.Proofs.EN
