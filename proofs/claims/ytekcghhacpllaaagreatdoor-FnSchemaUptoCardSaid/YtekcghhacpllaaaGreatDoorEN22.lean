/- Contracts of functions of this program, by the evaluator EN; part EN22. No conditions but those that each theorem states. -/
import Derived.Test.YtekcghhacpllaaaGreatDoorEN21
/- Operations that only yield a value, in a world. -/
namespace Go.Proofs.EN
open Go
set_option linter.unusedVariables false
set_option linter.unusedSimpArgs false
variable {tt : TypeId → Option TI} {P : Program} {c : Ctx} {w : World} {g : Gh} {os : List Ob} {S : Nat → Prop}

theorem RepW.lv0 {md : Md} {v : Value} {d : D} {φ : Nat → Prop} (h : RepW tt w S md v d φ) : md = .lv 0 → Rep tt w S v d := by
  cases h with
  | froz v d φ h => exact fun _ => h
  | sc md v d φ h hs => exact fun _ => h
  | zero md T a φ => exact fun _ => .nil T a 0
  | list md T ti xs cap b φ vs φs => intro e; cases md <;> cases e
/-- A slice of plain data, made in a region that draws its order. -/
theorem op_buildFull (hT : TTok P tt) {T e : TypeId} {ks : List CK} {by' n : Nat} {ti : TI} {ps : Array (Nat × Operand)} {nt : Nat} {a : Act} {s : St} {xs : List (List D)} (hs : RepSt tt c w g nt a s)
    (ht : tt T = some ⟨.slice e, ks, by'⟩) (hte : tt e = some ti) (hd : dataKs ti.cells = true) (h0 : 0 < ti.cells.length) (hn : ps.toList.length = n) (hn2 : n * ti.cells.length ≤ 4096) (hone : ∀ p ∈ ps.toList, (cellsC (s.ev p.2)).all C.one = true)
    (hp : putParts tt (.lv 0) ti.cells (ps.toList.map fun p => (p.1, s.ev p.2)) s.objs 0 = some (xs, s.objs)) :
    ∃ v w' g', (Instr.buildSlice T n (ps.map fun (i, x) => (i, a.eval x))).run P w = .ok v w' ∧ RepSt tt c w' g' nt a s ∧ Stp c w g s.objs w' g' s.objs ∧ (xs = [] → RepC tt w' (Now c w' g' s.objs.length) g' s.objs v .cap0) ∧ RepC tt w' (Now c w' g' s.objs.length) g' s.objs v (.full e xs) := by
  obtain ⟨info, hi⟩ := hT T _ ht
  obtain ⟨ie, hie⟩ := hT e _ hte
  obtain ⟨zv, hz, hsz, hzc⟩ := hie.zero
  have hu : P.underlying T = some (.slice e) := hi.uk.1
  let zs : Array Value := (Array.range (n * ti.cells.length)).map ((if n * ti.cells.length = 0 then #[] else zv.cells)[· % (if n * ti.cells.length = 0 then #[] else zv.cells).size]!)
  have hzs : zs.size = n * ti.cells.length := by simp [zs]
  obtain ⟨g1, ψ, cs', hs1, st1, hl, hol, hkd, _, hfill, hcs, _, hP⟩ := putParts_sound (j := 0) (cs := zs) h0 hs hp (vps := ps.toList.map fun p => (p.1, a.eval p.2)) (by simp)
    (fun i hi' => by
      have hi2 : i < ps.toList.length := by simpa using hi'
      simp only [List.getD_eq_getElem?_getD, List.getElem?_map, List.getElem?_eq_getElem hi2, Option.map_some, Option.getD_some]
      exact ⟨trivial, hs.ev _⟩)
    (fun i hi' => by
      have hi2 : i < ps.toList.length := by simpa using hi'
      simp only [List.getD_eq_getElem?_getD, List.getElem?_map, List.getElem?_eq_getElem hi2, Option.map_some, Option.getD_some]
      exact hone _ (List.getElem_mem hi2))
    (by rw [hzs, List.length_map, hn, Nat.zero_add]; exact Nat.le_refl _)
  have hxn : xs.length = n := by rw [hl, List.length_map, hn]
  have hnb : n ≤ n * ti.cells.length := Nat.le_mul_of_pos_right n h0
  have hrun : (Instr.buildSlice T n (ps.map fun (i, x) => (i, a.eval x))).run P w = .ok (.slice (some ⟨w.heap.size, 0, none⟩) n n) (w.alloc (.cells cs' e)) := by
    have hsize : (sizeOf e).run P w = .ok ti.cells.length w := by simp [sizeOf, typeInfo, hie.inf, hie.size]
    have hz' : (zeroValue e).run P w = .ok zv w := by simp [zeroValue, typeInfo, hie.inf, hz]
    have hfill' : Instr.fill (fun i => some (i * ti.cells.length, ti.cells.length)) zs (ps.map fun (i, x) => (i, a.eval x)).toList = some cs' := by simpa using hfill
    have hbig : ¬ (n * ti.cells.length > 2 ^ 24) := by omega
    simp only [Instr.buildSlice, Sem.run_bind, run_underlying hu, Result.andThen_ok, hsize, if_neg hbig, Sem.run_pure]
    by_cases hn0 : n * ti.cells.length = 0
    · simp only [zs, if_pos hn0] at hfill'
      simp only [if_pos hn0, Sem.run_pure, Result.andThen_ok, hfill', Sem.run_bind, newRow]
      simp
    · simp only [zs, if_neg hn0] at hfill'
      simp only [if_neg hn0, Sem.run_bind, hz', Sem.run_pure, Result.andThen_ok, hfill', newRow]
      simp
  have hheap : ∀ b, b < w.heap.size → (w.alloc (.cells cs' e)).heap[b]? = w.heap[b]? := fun b hb => heap_alloc_old w _ b hb
  have hk : Kept (fun _ => False) w (w.alloc (.cells cs' e)) := ⟨rfl, rfl, rfl, by simp, fun b hb _ => hheap b hb⟩
  have hs1' : RepSt tt c w g1 nt a s := hs1
  obtain ⟨hs2, st2⟩ := hs1'.grown hk
  have hnew : Now c (w.alloc (.cells cs' e)) g1 s.objs.length w.heap.size := by
    refine .inr ⟨.inl hs1'.inv.kept.size, by simp, fun ⟨o, ho, h⟩ => ?_⟩
    have := (hs1'.inv.own o _ ho h).2
    omega
  have hcs' : cs'.size = n * ti.cells.length := by rw [hcs, hzs]
  refine ⟨_, _, g1, hrun, hs2, st1.trans st2, fun hnil => ?_, ?_⟩
  · subst hnil
    have : n = 0 := by simpa using hxn.symm
    subst this
    exact .cap0 _
  · refine .full _ e xs n hxn.symm ?_
    rw [← hxn]
    refine .list e ti _ _ _ w.heap.size 0 (fun i j => cs'.getD (i * ti.cells.length + j) Go.undef) hte hd h0 (Nat.le_refl _) (by unfold big; omega) hP.fit (fun _ => ⟨rfl, hnew⟩) (fun i j hi' hj => ?_) (fun i j hi' hj => ?_)
    · rw [Nat.zero_add, cell_of_row _ w.heap.size _ cs' e (0, 0) (heap_alloc_new w _)]
      have : i * ti.cells.length + j < cs'.size := by rw [hcs', ← hxn]; exact idx_lt hi' hj
      simp [Array.getD, this]
    · have := (hP.rep i j hi' hj).lv0 rfl
      rw [Nat.zero_add] at this
      exact st2.repD this

theorem OpWp.value' {nt : Nat} {a : Act} {s : St} {o : Oper} {Kv Kp : C → St → R} (h : ∃ v w', (execOp a.eval o).run P w = .ok (.value v) w' ∧ Done tt c w g s.objs nt a Kv v w') : OpWp tt P c g s.objs nt a w o Kv Kp := by
  obtain ⟨v, w', h1, h2⟩ := h
  exact .value h1 h2
theorem valOp_sound (hT : TTok P tt) {E : Env} (hE : E.B.tt = tt) (hX : ∀ f args os Kr Kp, E.B.W f args os Kr Kp → Wp c.T P tt f args os Kr Kp) {o : Oper} {nt : Nat} {a : Act} {s : St} {Kv : C → R} (hs : RepSt tt c w g nt a s)
    (h : valOp E o s Kv) : OpWp tt P c g s.objs nt a w o (fun cv s' => s' = s ∧ Kv cv) (fun _ _ => False) := by
  have via : evalOp E o s (fun cv s' => s' = s ∧ Kv cv) (fun _ _ => False) → OpWp tt P c g s.objs nt a w o (fun cv s' => s' = s ∧ Kv cv) (fun _ _ => False) := evalOp_sound hT hE hX hs
  cases hop : o.op
  case move x =>
    simp only [valOp, hop] at h
    exact .value (by simp only [execOp, hop]; rfl) (.same hs (hs.ev x) ⟨rfl, h⟩)
  case assign x =>
    simp only [valOp, hop] at h
    exact .value (by simp only [execOp, hop]; rfl) (.same hs (hs.ev x) ⟨rfl, h⟩)
  case call cc =>
    simp only [valOp, hop] at h
    split at h
    · rename_i hcal
      refine via ?_
      simp only [evalOp, hop, hcal]
      split at h
      · split at h
        · exact fun _ => ⟨trivial, h⟩
        · cases h
      · cases h
    · rename_i f hcal
      split at h
      · rename_i g1 caps hfe
        obtain ⟨hcond, h'⟩ := bif_some h
        clear h
        simp only [Bool.and_eq_true, List.all_eq_true] at hcond
        have hl := Nat.eq_of_beq_eq_true hcond.1
        split at h'
        · rename_i cs os' hargs
          rw [sqL_eq] at h'
          obtain ⟨cv, hP, hk⟩ := h'
          have hf := hs.ev f
          rw [hfe] at hf
          generalize hev : a.eval f = vf at hf
          cases hf with
          | func _ _ us hul hur =>
            have hlz : (zipT cc.argTypes.toList (cc.args.toList.map s.ev)).length = cc.args.toList.length := by
              rw [zipT_length _ _ (by simp at hl ⊢; omega)]; simp
            refine pureCall_sound hX hs (vs := cc.args.toList.map a.eval) (us := us.toList) (by rw [hlz]; simp) (fun i hi => ?_) (fun p hp => ?_) (by simpa using hul) (fun i hi => ?_) hargs hP hk ?_
            · rw [zipT_getD _ _ _ (by simp at hl ⊢; omega)]
              exact hs.evs _ i (by rw [hlz] at hi; simpa using hi)
            · have := zipT_mem hp
              obtain ⟨x, hx, he⟩ := List.mem_map.1 this
              rw [← he]
              exact hcond.2 x hx
            · rw [getD_toList]; exact hur i hi
            · simp only [execOp, hop, resolve, hcal, hev, Deferred.ofValue, Sem.run_bind, Sem.run_pure, Result.andThen_ok, invoke]
              congr 2
              simp
        · cases h'
      · cases h
    · cases h
  case buildSlice T n ps =>
    simp only [valOp, hop] at h
    split at h
    · rename_i e ks b hti
      split at h
      · rename_i ti hte
        obtain ⟨hc, h'⟩ := bif_some h
        clear h
        obtain ⟨hc1, hc2⟩ := Bool.and_eq_true_iff.1 hc
        simp only [Bool.and_eq_true, List.all_eq_true] at hc1
        split at h'
        · rename_i xs os' hp
          rw [hE] at hp hti hte
          have hos := putParts_noRow hp fun p hpm => by
            obtain ⟨q, hq, rfl⟩ := List.mem_map.1 hpm
            exact List.all_eq_true.1 hc2 q hq
          subst hos
          obtain ⟨v, w', g', hr, hs', st, hz, hf⟩ := op_buildFull hT hs hti hte hc1.1.1 (by have := hc1.1.2; simp [Nat.blt] at this; omega) (Nat.eq_of_beq_eq_true hc1.2.1) (Nat.le_of_ble_eq_true hc1.2.2.1) (fun p hp => List.all_eq_true.2 (hc1.2.2.2 p hp)) hp
          refine .value (v := v) (w' := w') (by simp only [execOp, hop, Sem.run_bind, hr, Result.andThen_ok]; rfl) ?_
          cases xs with
          | nil => exact ⟨_, s, g', hs', st, hz rfl, rfl, h'⟩
          | cons x xs => exact ⟨_, s, g', hs', st, hf, rfl, h'⟩
        · cases h'
      · cases h
    · cases h
  case slice T x lo hi mx =>
    simp only [valOp, hop] at h
    have rel : ∀ y : Option Operand, Option.Rel (fun v x => RepC tt w (Now c w g s.objs.length) g s.objs v x) (y.map a.eval) (y.map s.ev) := by
      intro y
      cases y with
      | none => exact .none
      | some y => exact .some (hs.ev y)
    obtain ⟨v, cv, hr, hv, hk⟩ := evalSlice_sound hT hE hs.inv h (hs.ev x) (rel lo) (rel hi) (rel mx)
    exact .value (v := v) (by simp [execOp, hop, hr]) (.same hs hv ⟨rfl, hk⟩)
  case makeInterface T x =>
    refine via ?_
    simp only [valOp, hop] at h
    simp only [evalOp, hop]
    split at h
    · rename_i h1 h2
      simp only [h1, h2, true_and]
      exact h
    · rename_i h1 h2
      simp only [h1, h2, true_and]
      exact h
    · rename_i h1 h2
      simp only [h1, h2, true_and]
      exact h
    · cases h
  case binOp op T x y U =>
    simp only [valOp, hop] at h
    exact .value' (by
      obtain ⟨v, cv, hr, hv, hk⟩ := evalBin2_sound (P := P) (ox := x) (oy := y) (a := a) hT hE h (hs.ev x) (hs.ev y)
      refine ⟨v, w, ?_, .same hs hv ⟨rfl, hk⟩⟩
      simp only [execOp, hop]
      simp only [Sem.run_bind] at hr ⊢
      rw [hr]
      rfl)
  all_goals
    refine via ?_
    simp only [valOp, hop] at h
    try (simp only [evalOp, hop, true_and]; exact h)

end Go.Proofs.EN
