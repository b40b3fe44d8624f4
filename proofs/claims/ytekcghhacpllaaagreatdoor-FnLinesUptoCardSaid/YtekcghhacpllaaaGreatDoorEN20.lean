/- Contracts of functions of this program, by the evaluator EN. No conditions but those that each theorem states. -/
import Derived.Test.YtekcghhacpllaaaGreatDoorEN27
/- All operations. -/
namespace Go.Proofs.EN
open Go
set_option linter.unusedVariables false
set_option linter.unusedSimpArgs false
variable {tt : TypeId → Option TI} {P : Program} {c : Ctx} {w : World} {g : Gh} {os : List Ob} {S : Nat → Prop}

theorem zipT_length : ∀ (ts : List TypeId) (cs : List C), ts.length = cs.length → (zipT ts cs).length = cs.length
  | [], [], _ => rfl
  | t :: ts, c :: cs, h => by simp [zipT, zipT_length ts cs (by simpa using h)]
theorem zipT_getD : ∀ (ts : List TypeId) (cs : List C) (i : Nat), ts.length = cs.length → ((zipT ts cs).getD i (0, .undef)).2 = cs.getD i .undef
  | [], [], i, _ => by simp [zipT]
  | t :: ts, c :: cs, 0, h => by simp [zipT]
  | t :: ts, c :: cs, i + 1, h => by simpa [zipT] using zipT_getD ts cs i (by simpa using h)

theorem RepSt.evs {nt : Nat} {a : Act} {s : St} (hs : RepSt tt c w g nt a s) (xs : List Operand) : ∀ i, i < (xs.map s.ev).length → RepC tt w (Now c w g s.objs.length) g s.objs ((xs.map a.eval).getD i Go.undef) ((xs.map s.ev).getD i .undef) := by
  intro i hi
  have hi' : i < xs.length := by simpa using hi
  simp only [List.getD_eq_getElem?_getD, List.getElem?_map, List.getElem?_eq_getElem hi', Option.map_some, Option.getD_some]
  exact hs.ev _

theorem lenC_sound (hT : TTok P tt) {E : Env} (hE : E.B.tt = tt) {T U : TypeId} {s : St} {v : Value} {x : C} {n : Nat} (hI : Inv tt c w g s.objs) (h : lenC T E x s.objs = some n) (hx : RepC tt w (Now c w g s.objs.length) g s.objs v x) :
    (Builtin.len_ #[T] U #[v]).run P w = .ok (.int .i64 (n : Int)) w ∧ n ≤ big := by
  subst hE
  unfold lenC at h
  split at h
  · rename_i l ks b ht
    cases h
    have hle := hx.d_inv.str_le
    obtain rfl := hx.str_inv
    obtain ⟨_, hi⟩ := hT _ _ ht
    refine ⟨?_, hle⟩
    simp [Builtin.len_, run_underlying hi.uk.1, ba_size, goInt]
  · rename_i e ks b ht
    obtain ⟨_, hi⟩ := hT _ _ ht
    split at h
    · rename_i xs hxs
      cases h
      obtain ⟨a, cap, rfl, hle, _⟩ := elems_rep hI hxs hx
      refine ⟨?_, hle⟩
      simp [Builtin.len_, run_underlying hi.uk.1, goInt]
    · cases h
  · cases h


theorem evalNilS_sound (hT : TTok P tt) {E : Env} (hE : E.B.tt = tt) {op : BinOp} {T : TypeId} {ox oy : Operand} {vx : Value} {a : Act} {cx : C} {Kv : C → R} (hI : Inv tt c w g os) (hy : isNilS oy = true)
    (h : evalNilS E op T cx os Kv) (hx : RepC tt w (Now c w g os.length) g os vx cx) :
    ∃ v cv, (do eqGuard op T ox oy vx (a.eval oy); binOp op T vx (a.eval oy) : Sem Value).run P w = .ok v w ∧ RepC tt w (Now c w g os.length) g os v cv ∧ Kv cv := by
  subst hE
  have ho : oy = .const (.slice none 0 0) := by
    unfold isNilS at hy
    split at hy
    · rfl
    · cases hy
  subst ho
  unfold evalNilS at h
  split at h
  · rename_i e ks b ht
    obtain ⟨_, hi⟩ := hT _ _ ht
    split at h
    · rename_i xs hxs
      obtain ⟨p, cap, rfl, hle, hcap, hpos⟩ := elems_rep hI hxs hx
      have hb : 0 < xs.length → p.isNone = false := fun h0 => by
        obtain ⟨⟨_, _, _, _, _, _, _, rfl, _⟩, _⟩ := hpos h0
        rfl
      have hg : (eqGuard op T ox (.const (.slice none 0 0)) (.slice p xs.length cap) (.slice none 0 0)).run P w = .ok () w := by
        unfold eqGuard
        cases op <;> simp
      have he : (Op.equal T (.slice p xs.length cap) (.slice none 0 0)).run P w = .ok p.isNone w := by
        unfold Op.equal
        show (Op.equalIn (9999 + 1) T (.slice p xs.length cap) (.slice none 0 0)).run P w = _
        unfold Op.equalIn
        cases p <;> simp [run_underlying hi.uk.1]
      have hev : a.eval (.const (.slice none 0 0)) = .slice none 0 0 := rfl
      rw [hev]
      split at h
      · obtain ⟨h⟩ := h
        exact ⟨_, _, by simp [hg, binOp, he], rep_bool _, h _ hb⟩
      · obtain ⟨h⟩ := h
        exact ⟨_, _, by simp [hg, binOp, he], rep_bool _, h _ hb⟩
      · cases h
    · cases h
  · cases h
theorem evalBin2_sound (hT : TTok P tt) {E : Env} (hE : E.B.tt = tt) {op : BinOp} {T : TypeId} {ox oy : Operand} {vx : Value} {a : Act} {cx cy : C} {Kv : C → R}
    (h : evalBin2 E op T oy cx cy Kv) (hx : RepC tt w S g os vx cx) (hy : RepC tt w S g os (a.eval oy) cy) :
    ∃ v cv, (do eqGuard op T ox oy vx (a.eval oy); binOp op T vx (a.eval oy) : Sem Value).run P w = .ok v w ∧ RepC tt w S g os v cv ∧ Kv cv := by
  unfold evalBin2 at h
  cases hk : isNilK oy with
  | false =>
    rw [hk] at h
    exact evalBin_sound (P := P) (U := T) hT hE h hx hy
  | true =>
    rw [hk] at h
    simp only [cond_true] at h
    subst hE
    have ho : oy = .const .nilIface := by
      unfold isNilK at hk
      split at hk
      · rfl
      · cases hk
    subst ho
    split at h
    · rename_i b hb
      have hv : (b = true ∧ vx = .nilIface) ∨ (b = false ∧ ∃ t u, vx = .iface t u) := by
        unfold nilB at hb
        split at hb
        · cases hb
          have := hx.d_inv
          cases this
          exact .inl ⟨rfl, rfl⟩
        · cases hb
          have := hx.d_inv
          cases this with
          | errN => exact .inl ⟨rfl, rfl⟩
          | errE => exact .inr ⟨rfl, _, _, rfl⟩
        · cases hb
          have := hx.d_inv
          cases this with
          | iface => exact .inr ⟨rfl, _, _, rfl⟩
        · cases hb
          have := hx.d_inv
          cases this with
          | ifaceS => exact .inr ⟨rfl, _, _, rfl⟩
        · cases hb
      have he : ∀ (ms : _), P.underlying T = some (.interface ms) → (Op.equal T vx .nilIface).run P w = .ok b w := by
        intro ms hu
        show (Op.equalIn (9999 + 1) T vx .nilIface).run P w = _
        unfold Op.equalIn
        rcases hv with ⟨rfl, rfl⟩ | ⟨rfl, t, u, rfl⟩ <;> simp [run_underlying hu]
      have hbin : ∀ (ms : _), P.underlying T = some (.interface ms) → op = .eql ∨ op = .neq → (do eqGuard op T ox (.const .nilIface) vx .nilIface; binOp op T vx .nilIface : Sem Value).run P w = .ok (.bool (if op = .eql then b else !b)) w := by
        intro ms hu hop
        have hg : (eqGuard op T ox (.const .nilIface) vx .nilIface).run P w = .ok () w := by
          rcases hv with ⟨rfl, rfl⟩ | ⟨rfl, t, u, rfl⟩ <;> rcases hop with rfl | rfl <;> simp [eqGuard]
        simp only [Sem.run_bind, hg, Result.andThen_ok]
        have heq := he ms hu
        rcases hv with ⟨rfl, rfl⟩ | ⟨rfl, t, u, rfl⟩ <;> rcases hop with rfl | rfl <;> simp [binOp, heq]
      have hev : a.eval (.const .nilIface) = .nilIface := rfl
      rw [hev]
      unfold evalNil at h
      split at h
      · rename_i ks by' ht
        obtain ⟨_, hi⟩ := hT _ _ ht
        obtain ⟨⟨ms, hu⟩, _⟩ := hi.uk
        exact ⟨_, _, hbin ms hu (.inl rfl), rep_bool _, by simpa using h⟩
      · rename_i ks by' ht
        obtain ⟨_, hi⟩ := hT _ _ ht
        obtain ⟨⟨ms, hu⟩, _⟩ := hi.uk
        exact ⟨_, _, hbin ms hu (.inr rfl), rep_bool _, by simpa using h⟩
      · cases h
    · cases h

theorem evalOp_sound (hT : TTok P tt) {E : Env} (hE : E.B.tt = tt) (hX : ∀ f args os Kr Kp, E.B.W f args os Kr Kp → Wp c.T P tt f args os Kr Kp) {o : Oper} {nt : Nat} {a : Act} {s : St} {Kv Kp : C → St → R} (hs : RepSt tt c w g nt a s)
    (h : evalOp E o s Kv Kp) : OpWp tt P c g s.objs nt a w o Kv Kp := by
  cases hop : o.op <;> simp only [evalOp, hop] at h
  case move x => exact .value (by simp only [execOp, hop]; rfl) (moveC_sound hE hs h (hs.ev x))
  case assign x => exact .value (by simp only [execOp, hop]; rfl) (moveC_sound hE hs h (hs.ev x))
  case pick cc x y =>
    have hc := hs.ev cc
    split at h
    · rename_i b hb
      rw [hb] at hc
      have hc := hc.bool_inv
      cases b with
      | true => exact .value (v := a.eval x) (by simp [execOp, hop, hc, asBool]) (.same hs (hs.ev x) h)
      | false => exact .value (v := a.eval y) (by simp [execOp, hop, hc, asBool]) (.same hs (hs.ev y) h)
    · cases h
  case alloc T =>
    split at h
    · rename_i ti hti
      obtain ⟨_, h⟩ := bif_some h
      rw [hE] at h hti
      generalize hp : promCs tt ti.cells (ti.cells.map zeroC) s.objs = q at h
      obtain ⟨cs, os'⟩ := q
      obtain ⟨v, w', hr, hd⟩ := op_alloc hT hs hti hp h
      exact .value (v := v) (by simp [execOp, hop, hr]) hd
    · cases h
  case box T x =>
    split at h
    · rename_i ti hti
      obtain ⟨hcond, h⟩ := bif_some h
      simp only [Bool.and_eq_true] at hcond
      rw [hE] at h
      generalize hp : promCs tt ti.cells (cellsC (s.ev x)) s.objs = q at h
      obtain ⟨cs, os'⟩ := q
      obtain ⟨v, w', hr, hd⟩ := op_box (P := P) (T := T) hs (hs.ev x) hcond.2.2 hp h
      exact .value (v := v) (by simp [execOp, hop, hr]) hd
    · cases h
  case build T ps =>
    split at h
    · rename_i fs ks b hti
      split at h
      · rename_i cs hcs
        obtain ⟨v, w', hr, hd⟩ := op_build hT hE hs (hE ▸ hti) hcs h
        exact .value (v := v) (by simp only [execOp, hop, Sem.run_bind, hr, Result.andThen_ok]; rfl) hd
      · cases h
    · cases h
  case buildSlice T n ps =>
    split at h
    · rename_i e ks b hti
      split at h
      · rename_i ti hte
        obtain ⟨hcond, h'⟩ := bif_some h
        clear h
        simp only [Bool.and_eq_true, List.all_eq_true] at hcond
        split at h'
        · rename_i md xs os' hp
          rw [hE] at hp hti hte
          have hp' : putParts tt md ti.cells (ps.toList.map fun p => (p.1, s.ev p.2)) s.objs 0 = some (xs, os') := by
            unfold putBest at hp
            split at hp
            · rename_i h1; cases hp; exact h1
            · split at hp
              · rename_i h1; cases hp; exact h1
              · split at hp
                · rename_i h1; cases hp; exact h1
                · cases hp
          obtain ⟨v, w', hr, hd⟩ := op_buildSlice hT (Kv := Kv) hs hti hte hcond.1.1 (by have := hcond.1.2; simp [Nat.blt] at this; omega) (Nat.eq_of_beq_eq_true hcond.2.1) (Nat.le_of_ble_eq_true hcond.2.2.1) (fun p hp => List.all_eq_true.2 (hcond.2.2.2 p hp)) hp' h'
          exact .value (v := v) (by simp only [execOp, hop, Sem.run_bind, hr, Result.andThen_ok]; rfl) hd
        · cases h'
      · cases h
    · cases h
  case load T x =>
    obtain ⟨v, cv, hr, hv, hk⟩ := evalLoad_sound hT hE hs.inv h (hs.ev x)
    exact .value (v := v) (by simp [execOp, hop, hr]) (.same hs hv hk)
  case store T x y =>
    obtain ⟨w', s', g', hr, hs', hg, hk⟩ := evalStore_sound hT hE hs h (hs.ev x) (hs.ev y)
    exact .skip (w' := w') (by simp [execOp, hop, hr]) ⟨.undef, s', g', hs', hg, .undef _, hk⟩
  case nilCheck x =>
    have hx := hs.ev x
    split at h
    · rename_i oo off hxe
      rw [hxe] at hx
      generalize hev : a.eval x = vx at hx
      have hx0 := hx
      cases hx with
      | ref _ _ b hη => exact .value (by simp only [execOp, hop, hev]; rfl) (.same hs hx0 h)
    · rename_i f cs hxe
      rw [hxe] at hx
      generalize hev : a.eval x = vx at hx
      have hx0 := hx
      cases hx with
      | func _ _ vs hl hr => exact .value (v := .func (.func f) #[] vs) (by simp only [execOp, hop, hev]; rfl) (.same hs hx0 h)
    · rename_i ks ds off hxe
      rw [hxe] at hx
      generalize hev : a.eval x = vx at hx
      have hx0 := hx
      cases hx with
      | lp _ _ _ b o2 vs hS hf hc hr => exact .value (by simp only [execOp, hop, hev]; rfl) (.same hs hx0 h)
    · rename_i oo i off hxe
      rw [hxe] at hx
      generalize hev : a.eval x = vx at hx
      have hx0 := hx
      cases hx with
      | rp _ _ _ b p ho hh => exact .value (by simp only [execOp, hop, hev]; rfl) (.same hs hx0 h)
    · cases h
  case binOp op T x y U =>
    cases hns : isNilS y with
    | true =>
      rw [hns] at h
      simp only [cond_true] at h
      obtain ⟨v, cv, hr, hv, hk⟩ := evalNilS_sound (P := P) (ox := x) (oy := y) (a := a) hT hE hs.inv hns h (hs.ev x)
      refine .value (v := v) ?_ (.same hs hv hk)
      simp only [execOp, hop]
      simp only [Sem.run_bind] at hr ⊢
      rw [hr]
      rfl
    | false =>
    rw [hns] at h
    simp only [cond_false] at h
    obtain ⟨v, cv, hr, hv, hk⟩ := evalBin2_sound (P := P) (ox := x) (oy := y) (a := a) hT hE h (hs.ev x) (hs.ev y)
    refine .value (v := v) ?_ (.same hs hv hk)
    simp only [execOp, hop]
    simp only [Sem.run_bind] at hr ⊢
    rw [hr]
    rfl
  case unOp op T x =>
    have hx := hs.ev x
    split at h
    · rename_i b hb
      rw [hb] at hx
      exact .value (v := .bool (!b)) (by simp [execOp, hop, hx.bool_inv, Op.unary]) (.same hs (rep_bool _) h)
    · rename_i k n hb
      rw [hb] at hx
      exact .value (v := .int k (k.wrap (0 - n))) (by simp only [execOp, hop, hx.int_inv]; simp [Op.unary, Op.intArith]) (.same hs (rep_int _ _) h)
    · cases h
  case convert src dst x =>
    obtain ⟨v, cv, hr, hv, hk⟩ := evalConv_sound hT hE hs.inv h (hs.ev x)
    exact .value (v := v) (by simp [execOp, hop, hr]) (.same hs hv hk)
  case makeInterface T x =>
    have hx := hs.ev x
    split at h
    · rename_i ks b bb hti hxe
      rw [hxe] at hx
      obtain ⟨info, hi⟩ := hT _ _ (hE ▸ hti)
      refine .value (v := .iface T (.bool bb)) ?_ (.same hs (.d _ _ (.iface T _ _ _ .bool (hE ▸ hti) hi.uk.2 rfl rfl ⟨_, rfl⟩ (.bool _))) h)
      simp [execOp, hop, hx.bool_inv, Instr.makeInterface, run_underlying hi.uk.1]
    · rename_i k ks b j n hti hxe
      obtain ⟨hjk, h'⟩ := bif_some h
      clear h
      have hjk : j = k := ikBeq_eq hjk
      subst hjk
      rw [hxe] at hx
      obtain ⟨info, hi⟩ := hT _ _ (hE ▸ hti)
      refine .value (v := .iface T (.int j n)) ?_ (.same hs (.d _ _ (.iface T _ _ _ (.int j) (hE ▸ hti) hi.uk.2 rfl rfl ⟨_, rfl⟩ (.int _ _))) h')
      simp [execOp, hop, hx.int_inv, Instr.makeInterface, run_underlying hi.uk.1]
    · rename_i ks b l hti hxe
      rw [hxe] at hx
      obtain ⟨info, hi⟩ := hT _ _ (hE ▸ hti)
      refine .value (v := .iface T (.string ⟨l.toArray⟩)) ?_ (.same hs (.d _ _ (.iface T _ _ _ .str (hE ▸ hti) hi.uk.2 rfl rfl ⟨_, rfl⟩ (.str _ hx.d_inv.str_le))) h)
      simp [execOp, hop, hx.str_inv, Instr.makeInterface, run_underlying hi.uk.1]
    · rename_i fs ks b cs hti hxe
      obtain ⟨hsc, h'⟩ := bif_some h
      clear h
      split at h'
      · rename_i ds os1 hds
        rw [hE] at hti
        rw [hxe] at hx
        obtain ⟨info, hi⟩ := hT _ _ hti
        obtain ⟨fields, hu, _, _⟩ := hi.uk
        generalize hev : a.eval x = vx at hx
        cases hx with
        | agg _ vs hl hr =>
          obtain ⟨g1, hs1, st1, hdl, hcl, hrep, hfit⟩ := toDs_sound (vs := vs.toList) hs hds (by simpa using hl) (fun i hi => by rw [getD_toList]; exact hr i hi)
          refine .value (v := .iface T (.agg vs)) ?_ (.same hs (.d _ _ (.ifaceS T vs ds _ hti hsc rfl hfit (hl.trans hcl) fun i hi' => ?_)) h')
          · simp [execOp, hop, hev, Instr.makeInterface, run_underlying hu]
          · have h1 := hrep i hi'
            rw [getD_toList] at h1
            have hk := List.getElem?_eq_getElem hi'
            refine sc_any ?_ h1
            have hk2 := scalKs_at hsc hk
            rw [CK.fits_isL (fitsAll_at hfit i _ hk)]
            generalize ks[i] = k at hk2
            cases k <;> first | rfl | cases hk2
      · cases h'
    · cases h
  case makeFunc fn first caps =>
    split at h
    · rename_i f hf
      refine .value (v := .func (.func f) #[] (caps.map a.eval)) ?_ (.same hs (.func f _ _ (by simp) (fun i hi => ?_)) h)
      · have : first = #[] := by simpa using hf
        subst this
        simp [execOp, hop, Instr.makeFunc]
      · have := hs.evs caps.toList i hi
        simpa [List.getD_eq_getElem?_getD, Array.getD_eq_getD_getElem?] using this
    · cases h
  case makeSlice T l cc =>
    split at h
    · rename_i e ks b n m hti hn hm
      split at h
      · rename_i ti hte
        obtain ⟨hcond, h⟩ := bif_some h
        simp only [Bool.and_eq_true] at hcond
        obtain ⟨h1, h2, h3⟩ := hcond
        obtain ⟨⟨h4, h5, h6⟩, h⟩ := h
        obtain ⟨kl, hl⟩ := natC_inv hn (hs.ev l)
        obtain ⟨kc, hc⟩ := natC_inv hm (hs.ev cc)
        obtain ⟨v, w', hr, hd⟩ := op_makeSlice (kl := kl) (kc := kc) hT hs (hE ▸ hti) (hE ▸ hte) h1 (by simp [Nat.blt] at h2; omega) (Nat.le_of_ble_eq_true h3) h4 h5 h6 h
        exact .value (v := v) (by simp [execOp, hop, hl, hc, hr]) hd
      · cases h
    · cases h
  case slice T x lo hi mx =>
    have rel : ∀ y : Option Operand, Option.Rel (fun v x => RepC tt w (Now c w g s.objs.length) g s.objs v x) (y.map a.eval) (y.map s.ev) := by
      intro y
      cases y with
      | none => exact .none
      | some y => exact .some (hs.ev y)
    obtain ⟨v, hr, hd⟩ := evalSliceS_sound hT hE hs h (hs.ev x) (rel lo) (rel hi) (rel mx)
    exact .value (v := v) (by simp [execOp, hop, hr]) hd
  case fieldAddr T x f =>
    have hx := hs.ev x
    split at h
    · rename_i fs ks b hti
      split at h
      · rename_i off U hf
        split at h
        · rename_i tu hu
          obtain ⟨h0, h⟩ := bif_some h
          have h0 : 0 < tu.cells.length := by simp [Nat.blt] at h0; omega
          obtain ⟨_, hi⟩ := hT _ _ (hE ▸ hti)
          split at h
          · rename_i oo aa hxe
            rw [hxe] at hx
            generalize hev : a.eval x = vx at hx
            cases hx with
            | ref _ _ b hη => exact .value (by simp only [execOp, hop, hev, Sem.run_bind, run_fieldAt hT hi hf (hE ▸ hu) h0, Result.andThen_ok]; rfl) (.same hs (.ref _ _ _ hη) h)
          · rename_i lks ds aa hxe
            rw [hxe] at hx
            generalize hev : a.eval x = vx at hx
            cases hx with
            | lp _ _ _ b o2 vs hS hf' hc hr =>
              refine .value (v := .pointer (some ⟨b, o2 + (aa + off), none⟩)) ?_ (.same hs (.lp _ _ _ _ _ vs hS hf' hc hr) h)
              simp only [execOp, hop, hev, Sem.run_bind, run_fieldAt hT hi hf (hE ▸ hu) h0, Result.andThen_ok, Nat.add_assoc]
              rfl
          · rename_i oo i aa hxe
            rw [hxe] at hx
            generalize hev : a.eval x = vx at hx
            cases hx with
            | rp _ _ _ b p ho hh =>
              refine .value (v := .pointer (some ⟨b, p + off, none⟩)) ?_ (.same hs (.rp _ _ _ _ _ ho fun n T' hx' => ?_) h)
              · simp only [execOp, hop, hev, Sem.run_bind, run_fieldAt hT hi hf (hE ▸ hu) h0, Result.andThen_ok]
                rfl
              · obtain ⟨h2, ti, o2, m, cap, h3, h4, h5⟩ := hh n T' hx'
                exact ⟨h2, ti, o2, m, cap, h3, h4, by omega⟩
          · rename_i e oo ver i of j aa hxe
            rw [hxe] at hx
            generalize hev : a.eval x = vx at hx
            cases hx with
            | np _ _ _ _ _ _ _ b p ho hh =>
              refine .value (v := .pointer (some ⟨b, p + off, none⟩)) ?_ (.same hs (.np _ _ _ _ _ _ _ _ _ ho fun T' ver' n hx' => ?_) h)
              · simp only [execOp, hop, hev, Sem.run_bind, run_fieldAt hT hi hf (hE ▸ hu) h0, Result.andThen_ok]
                rfl
              · obtain ⟨h2, h3⟩ := hh T' ver' n hx'
                refine ⟨h2, fun he => ?_⟩
                obtain ⟨h4, h5, te, m, cap, h6, h7, h8, h9⟩ := h3 he
                exact ⟨h4, h5, te, m, cap, h6, h7, h8, by omega⟩
          · cases h
        · cases h
      · cases h
    · cases h
  case field T x f =>
    split at h
    · rename_i fs ks b hti
      split at h
      · rename_i off U cs hf hxe
        split at h
        · rename_i tu hu
          obtain ⟨hle, h⟩ := bif_some h
          split at h
          · rename_i cv hmk
            have hx := hs.ev x
            rw [hxe] at hx
            obtain ⟨v, hr, hv⟩ := op_field hT (hE ▸ hti) hf (hE ▸ hu) (Nat.le_of_ble_eq_true hle) hmk hx
            exact .value (v := v) (by simp [execOp, hop, hr]) (.same hs hv h)
          · cases h
        · cases h
      · cases h
    · cases h
  case indexAddr T x i =>
    obtain ⟨v, cv, hr, hv, hk⟩ := evalIndexAddr_sound hT hE hs.inv h (hs.ev x) (hs.ev i)
    exact .value (v := v) (by simp [execOp, hop, hr]) (.same hs hv hk)
  case index T x i =>
    split at h
    · rename_i ks b t n hti hxe hn
      obtain ⟨hcond, h⟩ := h
      have hx := hs.ev x
      rw [hxe] at hx
      obtain ⟨k, hk⟩ := natC_inv hn (hs.ev i)
      exact .value (v := .int .u8 ((t.getD n.toNat 0).toNat : Int)) (by simp only [execOp, hop, hx.str_inv, hk, Sem.run_bind, op_index (P := P) (w := w) (k := k) hT (hE ▸ hti) hcond.1 hcond.2, Result.andThen_ok]; rfl) (.same hs (rep_int _ _) h)
    · cases h
  case makeMap T r =>
    split at h
    · rename_i K V ck cv hm
      rw [hE] at hm
      obtain ⟨v, w', g', hr, hs', hst, hv⟩ := makeMap_sound (P := P) (md := mapMd E.B.tt cv) hs hm
      exact .value (v := v) (by simp [execOp, hop, hr]) ⟨_, _, g', hs', hst, hv, h⟩
    · cases h
  case lookup T x k ok =>
    obtain ⟨v, cv, hr, hv, hk⟩ := evalLookup_sound (P := P) hT hE hs.inv h (hs.ev x) (hs.ev k)
    exact .value (v := v) (by simp [execOp, hop, hr]) (.same hs hv hk)
  case mapUpdate T x k y =>
    obtain ⟨w', s', g', hr, hs', hg, hk⟩ := evalMapUpdate_sound hT hE hs h (hs.ev x) (hs.ev k) (hs.ev y)
    exact .skip (w' := w') (by simp [execOp, hop, hr]) ⟨.undef, s', g', hs', hg, .undef _, hk⟩
  case typeAssert x U T ok =>
    obtain ⟨v, cv, hr, hv, hk⟩ := op_assert (P := P) (U := U) hT hE h (hs.ev x)
    exact .value (v := v) (by simp [execOp, hop, hr]) (.same hs hv hk)
  case extract t i =>
    have hx := hs.ev t
    split at h
    · rename_i cs hxe
      rw [hxe] at hx
      split at h
      · rename_i cv hcv
        generalize hev : a.eval t = vt at hx
        cases hx with
        | tuple _ vs hl hr =>
          have hi : i < cs.length := (List.getElem?_eq_some_iff.1 hcv).1
          have hv := hr i hi
          have e : cs.getD i .undef = cv := by simp [List.getD_eq_getElem?_getD, hcv]
          rw [e] at hv
          refine .value (v := vs.getD i Go.undef) ?_ (.same hs hv h)
          have hlt : i < vs.size := by omega
          have : vs[i]? = some (vs.getD i Go.undef) := by rw [Array.getElem?_eq_getElem hlt]; simp [Array.getD, hlt]
          simp only [execOp, hop, hev, Instr.extract, this, Sem.run_bind, Sem.run_pure, Result.andThen_ok]
      · cases h
    · cases h
  case call cc =>
    split at h
    · -- len
      split at h
      · rename_i hcal _ _ T x hts hxs
        split at h
        · rename_i n hn
          have h1 : cc.argTypes = #[T] := by rw [← Array.toArray_toList (xs := cc.argTypes), hts]
          have h2 : cc.args = #[x] := by rw [← Array.toArray_toList (xs := cc.args), hxs]
          have hlen := lenC_sound (P := P) (U := o.type) hT hE hs.inv hn (hs.ev x)
          refine .value (v := .int .i64 (n : Int)) ?_ (.same hs (rep_int _ _) (h hlen.2))
          simp only [execOp, hop, resolve, hcal, invoke, builtin, h1, h2, Sem.run_bind, Sem.run_pure, Result.andThen_ok, List.map_toArray, List.map_cons, List.map_nil, hlen.1]
        · cases h
      · cases h
    · split at h
      · rename_i hcal _ _ T U x y hts hxs
        obtain ⟨hTU, h'⟩ := bif_some h
        clear h
        have hTU := Nat.eq_of_beq_eq_true hTU
        subst hTU
        have h1 : cc.argTypes = #[T, T] := by rw [← Array.toArray_toList (xs := cc.argTypes), hts]
        have h2 : cc.args = #[x, y] := by rw [← Array.toArray_toList (xs := cc.args), hxs]
        obtain ⟨v, w', cv, s', g', hr, hs', hg, hv, hk⟩ := evalAppend_sound (P := P) (U := o.type) hT hE hs h' (hs.ev x) (hs.ev y)
        refine .value (v := v) ?_ ⟨cv, s', g', hs', hg, hv, hk⟩
        simp [execOp, hop, resolve, hcal, invoke, builtin, h1, h2, hr]
      · cases h
    · split at h
      · rename_i hcal _ x y hxs
        split at h
        · rename_i k m k' n hxe hye
          obtain ⟨hkk, h'⟩ := bif_some h
          clear h
          have hkk : k = k' := ikBeq_eq hkk
          subst hkk
          have h2 : cc.args = #[x, y] := by rw [← Array.toArray_toList (xs := cc.args), hxs]
          have hx := hs.ev x
          have hy := hs.ev y
          rw [hxe] at hx
          rw [hye] at hy
          refine .value (v := .int k (bif decide (n < m) then n else m)) ?_ (.same hs (rep_int _ _) h')
          simp only [execOp, hop, resolve, hcal, invoke, builtin, h2]
          simp [Builtin.min_, Builtin.min2, hx.int_inv, hy.int_inv, Bool.cond_decide]
        · cases h
      · cases h
    · split at h
      · rename_i hcal _ x y hxs
        split at h
        · rename_i k m k' n hxe hye
          obtain ⟨hkk, h'⟩ := bif_some h
          clear h
          have hkk : k = k' := ikBeq_eq hkk
          subst hkk
          have h2 : cc.args = #[x, y] := by rw [← Array.toArray_toList (xs := cc.args), hxs]
          have hx := hs.ev x
          have hy := hs.ev y
          rw [hxe] at hx
          rw [hye] at hy
          refine .value (v := .int k (bif decide (m < n) then n else m)) ?_ (.same hs (rep_int _ _) h')
          simp only [execOp, hop, resolve, hcal, invoke, builtin, h2]
          simp [Builtin.max_, Builtin.max2, hx.int_inv, hy.int_inv, Bool.cond_decide]
        · cases h
      · cases h
    · rename_i f hcal
      split at h
      · rename_i g caps hfe
        obtain ⟨hl, h⟩ := bif_some h
        have hl := Nat.eq_of_beq_eq_true hl
        have hf := hs.ev f
        rw [hfe] at hf
        generalize hev : a.eval f = vf at hf
        cases hf with
        | func _ _ us hul hur =>
          have hlz : (zipT cc.argTypes.toList (cc.args.toList.map s.ev)).length = cc.args.toList.length := by
            rw [zipT_length _ _ (by simp at hl ⊢; omega)]; simp
          refine evalCall_sound (hE := hE) hX hs h (vs := cc.args.toList.map a.eval) (us := us.toList) (by rw [hlz]; simp) (fun i hi => ?_) (by simpa using hul) (fun i hi => ?_) ?_
          · rw [zipT_getD _ _ _ (by simp at hl ⊢; omega)]
            exact hs.evs _ i (by rw [hlz] at hi; simpa using hi)
          · have := hur i hi
            simpa [List.getD_eq_getElem?_getD, Array.getD_eq_getD_getElem?] using this
          · simp only [execOp, hop, resolve, hcal, hev, Deferred.ofValue, Sem.run_bind, Sem.run_pure, Result.andThen_ok, invoke]
            congr 2
            simp
      · cases h
    · cases h
  case panic x =>
    split at h
    · rename_i t d hxe
      have hx := hs.ev x
      rw [hxe] at hx
      have hx := hx.d_inv
      generalize hev : a.eval x = vx at hx
      have hx0 := hx
      cases hx with
      | iface _ u _ ti k ht hc hk ha hf hr => exact .panic (v := .iface t u) (w' := w) (by unfold execOp; rw [hop]; simp only [hev]; rfl) (.same hs (.d _ _ hx0) h)
    · rename_i t ds hxe
      have hx := hs.ev x
      rw [hxe] at hx
      have hx := hx.d_inv
      generalize hev : a.eval x = vx at hx
      have hx0 := hx
      cases hx with
      | ifaceS _ us _ ti ht hk ha hf hl hr => exact .panic (v := .iface t (.agg us)) (w' := w) (by unfold execOp; rw [hop]; simp only [hev]; rfl) (.same hs (.d _ _ hx0) h)
    · cases h
  all_goals cases h

end Go.Proofs.EN
