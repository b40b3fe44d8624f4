/- Contracts of functions of this program, by the evaluator EN. No conditions but those that each theorem states. -/
import Derived.Test.YtekcghhacpllaaaGreatDoorEN24
import Derived.ChangeArms
import Derived.Recover
import Derived.Test.YtekcghhacpllaaaGreatDoorChecked
import Derived.KernelRfl
/- What can be read as data stands for data of the evaluator. -/
namespace Go.Proofs.EN
open Go
set_option linter.unusedVariables false
variable {tt : TypeId → Option TI} {P : Program} {w : World}

/-- Numbers, bools, texts, slices and structs of such, all of them in a list of types. -/
def locF (tt : TypeId → Option TI) (l : List Nat) : List (Nat × TypeId) → Nat → List CK → Bool
  | [], _, cs => cs.isEmpty
  | (off, U) :: r, o, cs => Nat.beq off o && (hasN U l && (match tt U with
    | some tu => ksBeq (cs.take tu.cells.length) tu.cells && (Nat.ble tu.cells.length cs.length && locF tt l r (o + tu.cells.length) (cs.drop tu.cells.length))
    | none => false))
def locT (tt : TypeId → Option TI) (l : List Nat) (T : TypeId) : Bool :=
  match tt T with
  | some ⟨.bool, _, _⟩ => true
  | some ⟨.int _, _, _⟩ => true
  | some ⟨.str, _, _⟩ => true
  | some ⟨.slice e, _, _⟩ => hasN e l && (match tt e with | some te => dataKs te.cells && Nat.blt 0 te.cells.length | none => false)
  | some ⟨.struct fs, cs, _⟩ => locF tt l fs 0 cs
  | _ => false
def locAll (tt : TypeId → Option TI) (l : List Nat) : Bool := l.all (locT tt l)

theorem hasN_mem {o : Nat} : ∀ {l : List Nat}, hasN o l = true → o ∈ l
  | [], h => by cases h
  | x :: xs, h => by
    simp only [hasN] at h
    cases hb : Nat.beq x o with
    | true => rw [Nat.eq_of_beq_eq_true hb]; exact List.mem_cons_self ..
    | false => rw [hb] at h; exact List.mem_cons_of_mem _ (hasN_mem h)
theorem fitsAll_append : ∀ {ks ks' : List CK} {ds ds' : List D}, fitsAll ks ds → fitsAll ks' ds' → fitsAll (ks ++ ks') (ds ++ ds')
  | [], _, [], _, _, h => h
  | [], _, _ :: _, _, h, _ => h.elim
  | _ :: _, _, [], _, h, _ => h.elim
  | k :: ks, _, d :: ds, _, h, h' => ⟨h.1, fitsAll_append h.2 h'⟩

/-- What is small enough, and all that lies in it. -/
structure Smalls {H : Type} (Sm : DataW H → Prop) : Prop where
  str : ∀ b, Sm (.lit (.string b)) → b.length ≤ big
  slice : ∀ es sp, Sm (.slice es sp) → es.length ≤ big ∧ ∀ e ∈ es, Sm e
  agg : ∀ ps, Sm (.agg ps) → ∀ p ∈ ps, Sm p

/-- The cells that stand for data of a type. -/
def RepT (tt : TypeId → Option TI) (w : World) (ks : List CK) (cs : List Value) : Prop :=
  ∃ ds, fitsAll ks ds ∧ cs.length = ks.length ∧ ∀ i, i < ks.length → Rep tt w (fun b => b < w.heap.size) (cs.getD i Go.undef) (ds.getD i .z)

theorem cells_at {a : Addr} {n : Nat} {cs : List Value} (h : w.cells? 0 a n = some cs) : cs.length = n ∧ ∀ i, i < n → w.cell? (a.add i) = some (cs.getD i Go.undef) := by
  unfold World.cells? at h
  rw [if_pos (Nat.zero_le _)] at h
  have : ∀ (l : List Nat) (r : List Value), l.mapM (fun i => w.cell? (a.add i)) = some r → r.length = l.length ∧ ∀ i (hi : i < l.length), w.cell? (a.add l[i]) = some (r.getD i Go.undef) := by
    intro l
    induction l with
    | nil => intro r h; simp at h; subst h; exact ⟨rfl, fun i hi => by cases hi⟩
    | cons x l ih =>
      intro r h
      simp only [List.mapM_cons, Option.bind_eq_bind, Option.bind_eq_some_iff, Option.pure_def, Option.some.injEq] at h
      obtain ⟨y, hy, r', hr, rfl⟩ := h
      obtain ⟨h1, h2⟩ := ih r' hr
      refine ⟨by simp [h1], fun i hi => ?_⟩
      cases i with
      | zero => simpa using hy
      | succ i => simpa using h2 i (by simpa using hi)
  obtain ⟨h1, h2⟩ := this _ _ h
  simp only [List.length_range] at h1 h2
  exact ⟨h1, fun i hi => by simpa using h2 i hi⟩

theorem repF (hT : TTok P tt) {l : List Nat} {cs : List Value} : ∀ (fs : List (Nat × TypeId)) (o : Nat) (ks : List CK), locF tt l fs o ks = true → cs.length = o + ks.length →
    (∀ f ∈ fs, ∀ tu, f.2 ∈ l → tt f.2 = some tu → RepT tt w tu.cells ((cs.drop f.1).take tu.cells.length)) → RepT tt w ks (cs.drop o)
  | [], o, ks, h, hl, _ => by
    simp only [locF, List.isEmpty_iff] at h
    subst h
    exact ⟨[], trivial, by simp at hl ⊢; omega, fun i hi => by cases hi⟩
  | (off, U) :: r, o, ks, h, hl, hf => by
    simp only [locF, Bool.and_eq_true] at h
    obtain ⟨ho, hU, h⟩ := h
    have ho := Nat.eq_of_beq_eq_true ho
    subst ho
    split at h
    · rename_i tu htu
      simp only [Bool.and_eq_true] at h
      obtain ⟨hk, hle, hr⟩ := h
      have hk := ksBeq_eq hk
      have hle : tu.cells.length ≤ ks.length := Nat.le_of_ble_eq_true hle
      obtain ⟨d1, f1, l1, r1⟩ := hf _ (List.mem_cons_self ..) tu (hasN_mem hU) htu
      obtain ⟨d2, f2, l2, r2⟩ := repF hT r (off + tu.cells.length) (ks.drop tu.cells.length) hr (by simp; omega) fun f hm => hf f (List.mem_cons_of_mem _ hm)
      have hks : ks = tu.cells ++ ks.drop tu.cells.length := by
        conv => lhs; rw [← List.take_append_drop tu.cells.length ks]
        rw [hk]
      have hd1 := fitsAll_length f1
      refine ⟨d1 ++ d2, by rw [hks]; exact fitsAll_append f1 f2, by simp; omega, fun i hi => ?_⟩
      by_cases hlt : i < tu.cells.length
      · have := r1 i hlt
        have e1 : ((cs.drop off).take tu.cells.length).getD i Go.undef = (cs.drop off).getD i Go.undef := by
          simp [List.getD_eq_getElem?_getD, hlt]
        have e2 : (d1 ++ d2).getD i .z = d1.getD i .z := by
          simp [List.getD_eq_getElem?_getD, List.getElem?_append_left (show i < d1.length by omega)]
        rw [e1] at this
        rw [e2]
        exact this
      · have := r2 (i - tu.cells.length) (by simp; omega)
        have e1 : (cs.drop (off + tu.cells.length)).getD (i - tu.cells.length) Go.undef = (cs.drop off).getD i Go.undef := by
          simp only [List.getD_eq_getElem?_getD, List.getElem?_drop]
          rw [show off + tu.cells.length + (i - tu.cells.length) = off + i by omega]
        have e2 : (d1 ++ d2).getD i .z = d2.getD (i - tu.cells.length) .z := by
          simp only [List.getD_eq_getElem?_getD]
          rw [List.getElem?_append_right (by omega), hd1]
        rw [e1] at this
        rw [e2]
        exact this
    · cases h

theorem repT_of_trod {H : Type} {enc : TypeId × Value → H} {sp : Nat → Bool} {held : Bool} {Sm : DataW H → Prop} (hS : Smalls Sm) (hT : TTok P tt) {l : List Nat} (hl : locAll tt l = true) : ∀ (fuel : Nat) (T : TypeId) (ti : TI) (cs : List Value) (x : DataW H × List MemPlace), T ∈ l → tt T = some ti →
    DataW.trod enc P w 0 sp held fuel T cs = some x → Sm x.1 → RepT tt w ti.cells cs := by
  intro fuel
  induction fuel with
  | zero => intro T ti cs x _ _ h; simp [DataW.trod] at h
  | succ fuel ih =>
    intro T ti cs x hTl hti h hsm
    have hloc := List.all_eq_true.1 hl T hTl
    obtain ⟨info, hinfo⟩ := hT T ti hti
    unfold locT at hloc
    rw [hti] at hloc
    obtain ⟨uk, cells, bytes⟩ := ti
    have huk := hinfo.uk
    cases uk with
    | bool =>
      obtain ⟨hu, rfl⟩ := huk
      obtain ⟨b, rfl, rfl⟩ := DataW.trod_bool hu h
      exact ⟨[.bool b], ⟨⟨b, rfl⟩, trivial⟩, rfl, fun i hi => by
        obtain rfl : i = 0 := by simpa using hi
        exact .bool b⟩
    | int k =>
      obtain ⟨hu, rfl⟩ := huk
      obtain ⟨n, rfl, rfl, _⟩ := DataW.trod_int hu h
      exact ⟨[.int k n], ⟨⟨n, rfl⟩, trivial⟩, rfl, fun i hi => by
        obtain rfl : i = 0 := by simpa using hi
        exact .int k n⟩
    | str =>
      obtain ⟨hu, rfl⟩ := huk
      obtain ⟨s, rfl, rfl, _⟩ := DataW.trod_string hu h
      refine ⟨[.str s.data.toList], ⟨⟨_, rfl⟩, trivial⟩, rfl, fun i hi => ?_⟩
      obtain rfl : i = 0 := by simpa using hi
      exact Rep.str _ (hS.str _ hsm)
    | slice e =>
      obtain ⟨hu, rfl⟩ := huk
      simp only [Bool.and_eq_true] at hloc
      obtain ⟨hel, hte⟩ := hloc
      split at hte
      · rename_i te hte'
        simp only [Bool.and_eq_true] at hte
        obtain ⟨hd, hk⟩ := hte
        have hk : 0 < te.cells.length := by simpa [Nat.blt_eq] using hk
        obtain ⟨ie, hie⟩ := hT e te hte'
        have hce : P.cellsOf e = te.cells.length := by rw [Program.cellsOf, hie.inf]; exact hie.size
        rcases DataW.trod_slice hu h with ⟨rfl, rfl⟩ | ⟨a, len, cap, elems, rest, n, hn, rfl, rfl, _, hlc, _, hlen, hel2, _⟩
        · exact ⟨[.list e []], ⟨⟨[], rfl⟩, trivial⟩, rfl, fun i hi => by
            obtain rfl : i = 0 := by simpa using hi
            exact Rep.nil e none 0⟩
        · obtain rfl : fuel = n := by omega
          obtain ⟨hlb, hes⟩ := hS.slice _ _ hsm
          simp only [List.length_map] at hlb
          have one : ∀ i, i < len → ∃ ds, fitsAll te.cells ds ∧ ∀ j, j < te.cells.length → ∃ v, w.cell? (a.add (i * te.cells.length + j)) = some v ∧ Rep tt w (fun b => b < w.heap.size) v (ds.getD j .z) := by
            intro i hi
            have he := hel2 i hi
            rw [List.getElem?_eq_getElem (show i < elems.length by omega), Option.bind_eq_some_iff] at he
            obtain ⟨ci, hci, htr⟩ := he
            rw [hce] at hci
            obtain ⟨hcl, hcc⟩ := cells_at hci
            obtain ⟨ds, hf, _, hr⟩ := ih e te ci _ (hasN_mem hel) hte' htr (hes _ (List.mem_map_of_mem (List.getElem_mem _)))
            refine ⟨ds, hf, fun j hj => ⟨_, ?_, hr j hj⟩⟩
            have := hcc j hj
            rwa [show (a.add (i * te.cells.length)).add j = a.add (i * te.cells.length + j) by
              unfold Addr.add
              by_cases hi : i * te.cells.length = 0 <;> by_cases hj : j = 0 <;> simp [hi, hj, Nat.add_assoc]] at this
          have hadd : ∀ _ : Nat, 0 < len → (a.spot = none ∧ a.block < w.heap.size) := fun _ h0 => by
            obtain ⟨_, _, hj⟩ := one 0 h0
            obtain ⟨v, hv, _⟩ := hj 0 hk
            simp only [Nat.zero_mul, Nat.add_zero] at hv
            have hv : w.cell? a = some v := by simpa [Addr.add] using hv
            unfold World.cell? at hv
            split at hv
            · rename_i c _ _ hb
              split at hv
              · cases hv
              · rename_i hs
                exact ⟨by simpa using hs, (Array.getElem?_eq_some_iff.1 hb).1⟩
            · cases hv
          let F : Nat → List D := fun i => if h : i < len then Classical.choose (one i h) else []
          have hF : ∀ i (h : i < len), fitsAll te.cells (F i) ∧ ∀ j, j < te.cells.length → ∃ v, w.cell? (a.add (i * te.cells.length + j)) = some v ∧ Rep tt w (fun b => b < w.heap.size) v ((F i).getD j .z) := fun i h => by
            simp only [F, dif_pos h]
            exact Classical.choose_spec (one i h)
          have hx : ∀ i, i < len → ((List.range len).map F).getD i [] = F i := fun i hi => by simp [hi]
          refine ⟨[.list e ((List.range len).map F)], ⟨⟨_, rfl⟩, trivial⟩, rfl, fun i hi => ?_⟩
          obtain rfl : i = 0 := by simpa using hi
          show Rep tt w _ (.slice (some a) len cap) (.list e ((List.range len).map F))
          have hrl : ((List.range len).map F).length = len := by simp
          have key : Rep tt w (fun b => b < w.heap.size) (.slice (some a) ((List.range len).map F).length cap) (.list e ((List.range len).map F)) := by
            refine Rep.list e te _ _ cap a.block a.off (fun i j => (w.cell? (a.add (i * te.cells.length + j))).getD Go.undef) hte' hd hk (by rw [hrl]; exact hlc) (by rw [hrl]; omega) (fun i hi => ?_) (fun h0 => ?_) (fun i j hi hj => ?_) (fun i j hi hj => ?_)
            · rw [hrl] at hi; rw [hx i hi]; exact (hF i hi).1
            · rw [hrl] at h0
              obtain ⟨h1, h2⟩ := hadd 0 h0
              exact ⟨by cases a; simp_all, h2⟩
            · rw [hrl] at hi
              obtain ⟨v, hv, _⟩ := (hF i hi).2 j hj
              obtain ⟨h1, _⟩ := hadd 0 (by omega)
              rw [hv, Option.getD_some, ← hv]
              congr 1
              unfold Addr.add
              split
              · rename_i h0; rw [h0]; cases a; simp_all
              · rfl
            · rw [hrl] at hi
              obtain ⟨v, hv, hr⟩ := (hF i hi).2 j hj
              rw [hx i hi, hv]
              exact hr
          rwa [hrl] at key
      · cases hte
    | struct fs =>
      obtain ⟨fields, hu, hfs, _⟩ := huk
      obtain ⟨xs, n, hn, rfl, hcl, hxl, hf⟩ := DataW.trod_struct hu h
      obtain rfl : fuel = n := by omega
      have hcs : P.cellsOf T = cells.length := by rw [Program.cellsOf, hinfo.inf]; exact hinfo.size
      have := repF (w := w) hT (l := l) (cs := cs) fs 0 cells hloc (by omega) fun f hm tu hfl htu => by
        rw [← hfs, List.mem_map] at hm
        obtain ⟨fd, hfd, rfl⟩ := hm
        obtain ⟨i, hi, hif⟩ := List.getElem_of_mem hfd
        have hi' : i < fields.size := by simpa using hi
        have hfi : fields[i]? = some fd := by
          rw [Array.getElem?_eq_getElem hi']
          simpa using hif
        have h2 := hf i fd hfi
        obtain ⟨iu, hiu⟩ := hT fd.type tu htu
        have hcu : P.cellsOf fd.type = tu.cells.length := by rw [Program.cellsOf, hiu.inf]; exact hiu.size
        rw [hcu, List.getElem?_eq_getElem (show i < xs.length by omega)] at h2
        exact ih fd.type tu _ _ hfl htu h2 (hS.agg _ hsm _ (List.mem_map_of_mem (List.getElem_mem _)))
      simpa using this
    | _ => cases hloc
end Go.Proofs.EN
/- Functions that defer a closure which recovers: the way on which nothing panics. -/
namespace Go.Proofs.EN
open Go
set_option linter.unusedVariables false
set_option linter.unusedSimpArgs false
variable {tt : TypeId → Option TI} {P : Program} {c : Ctx} {w : World} {g : Gh} {os : List Ob} {S : Nat → Prop}

theorem wpOpsS_of {ops : Array Oper} {Q : Exit → Act → List Frame → World → Prop} {Q' : Exit → Act → World → Prop} {cs : List Frame} (hq : ∀ e a w, Q' e a w → Q e a cs w) (hno : ¬ LetsOut Q') :
    ∀ (l : List Nat) (a : Act) (w : World), wpOps P ops Q' l a w → wpOpsS P ops Q l a cs w
  | [], a, w, h => hq _ _ _ h
  | i :: rest, a, w, h => by
    have ih := wpOpsS_of (ops := ops) hq hno rest
    simp only [wpOps] at h
    simp only [wpOpsS]
    cases ho : ops[i]? with
    | none => rw [ho] at h; exact ih _ _ h
    | some o =>
      simp only [ho] at h ⊢
      by_cases hw : Region.wanted o (yielded ops a.tmps) = true
      · simp only [hw, if_true] at h ⊢
        rcases h with h | ⟨_, h⟩
        · unfold Oper.wp at h
          generalize (execOp a.eval o).run P w = r at h ⊢
          cases r with
          | ok n w' =>
            cases n <;> simp only [Oper.upon] at h ⊢ <;> first
              | exact ih _ _ h
              | exact h.elim
              | exact Calls.mono h (fun e w'' he => by cases e <;> first | exact ih _ _ he | exact hq _ _ _ he | exact (hno he).elim)
              | exact Rows.mono h (fun _ _ he => ih _ _ he)
          | halt x w' => cases x <;> simp only [Oper.upon] at h ⊢ <;> first | exact hq _ _ _ h | exact h.elim
        · exact (hno h).elim
      · simp only [hw] at h ⊢
        exact ih _ _ h

noncomputable section
def isRec (o : Oper) : Bool := match o.op, o.guard with
  | .call c, none => match c.callee with
    | .builtin .recover => true
    | _ => false
  | _, _ => false
def recEnd (E : Env) (fn : Func) (n : Nat) (K : List Ob → R) : Ex → St → R := fun e s => match e with
  | .normal => resK E fn n (fun _ os => K os) s
  | .ret => resK E fn n (fun _ os => K os) s
  | _ => False
def recK (E : Env) (fn : Func) (nt n : Nat) (rest : Code) (K : List Ob → R) : Ex → St → R := seqK (fun s => evalCode { E with np := n, nt := nt } rest 0 s (recEnd E fn n K)) (fun _ _ => False)
/-- A closure that recovers, when nothing panics. -/
def evalRec (E : Env) (fn : Func) (args : List C) (os : List Ob) (K : List Ob → R) : R :=
  match fn.body with
  | some (.seq (.region rid ops false) rest) => match ops.toList with
    | o0 :: l => bif isRec o0 then
        (⟨argT 0 args, os⟩ : St).putK (bif Nat.ble fn.ntmps args.length then args.length else fn.ntmps) o0.dst (.d .nilI) fun s =>
          evalOps { E with np := os.length, nt := bif Nat.ble fn.ntmps args.length then args.length else fn.ntmps } ops.toList l 1 s
            (recK E fn (bif Nat.ble fn.ntmps args.length then args.length else fn.ntmps) os.length rest K)
      else False
    | [] => False
  | _ => False
end

/-- What a deferred call does when nothing panics. -/
structure WpD (T : Tabs) (P : Program) (tt : TypeId → Option TI) (f : FuncId) (args : List C) (os : List Ob) (K : List Ob → R) : Prop where
  calls : ∀ (c : Ctx) (g : Gh) (vs : List Value), c.T = T → Inv tt c c.w0 g os → vs.length = args.length →
    (∀ i, i < args.length → RepC tt c.w0 (Now c c.w0 g os.length) g os (vs.getD i Go.undef) (args.getD i .undef)) →
    CallsD P f vs.toArray .returning c.w0 fun e u' w' => u' = .returning ∧ ∃ v g' os', e = .returned v ∧ Inv tt c w' g' os' ∧ Later g os g' os' ∧ K os'

theorem RepSt.start {fn : Func} {args : List C} {vs : List Value} (hI : Inv tt c w g os) (hds : c.ds = []) (hvl : vs.length = args.length)
    (hv : ∀ i, i < args.length → RepC tt w (Now c w g os.length) g os (vs.getD i Go.undef) (args.getD i .undef)) :
    RepSt tt c w g (bif Nat.ble fn.ntmps args.length then args.length else fn.ntmps) { tmps := vs.toArray ++ Array.replicate (fn.ntmps - vs.toArray.size) undef, defers := [] } ⟨argT 0 args, os⟩ := by
  have hntd : args.length + (fn.ntmps - args.length) = bif Nat.ble fn.ntmps args.length then args.length else fn.ntmps := by
    cases hb : Nat.ble fn.ntmps args.length with
    | true => have := Nat.le_of_ble_eq_true hb; simp; omega
    | false =>
      have : ¬ fn.ntmps ≤ args.length := fun h => by rw [Nat.ble_eq_true_of_le h] at hb; cases hb
      simp; omega
  refine ⟨hI, hds.symm, ?_, fun t => ?_⟩
  · rw [← hntd]; simp [hvl]
  · rw [argT_look, if_pos (Nat.zero_le _), Nat.sub_zero]
    simp only [Array.getD_eq_getD_getElem?, List.getD_eq_getElem?_getD] at hv ⊢
    by_cases hlt : t < args.length
    · rw [Array.getElem?_append_left (by simp; omega)]
      have := hv t hlt
      simpa using this
    · rw [List.getElem?_eq_none (by omega)]
      exact .undef _

theorem post_noOut {nt : Nat} {gg : Gh} {os0 : List Ob} {K : Ex → St → R} : ¬ LetsOut (Post tt c nt gg os0 K) := fun ⟨_, _, h⟩ => h
theorem isRec_run {o : Oper} (h : isRec o = true) (a : Act) (w : World) : (execOp a.eval o).run P w = .ok .recover w ∧ o.guard = none := by
  unfold isRec at h
  split at h
  · rename_i cc hop hg
    split at h
    · rename_i hcal
      refine ⟨?_, hg⟩
      simp [execOp, hop, resolve, hcal, invoke, builtin]
    · cases h
  · cases h

theorem WpD.of {T : Tabs} (hT : TTok P tt) {E : Env} (hE : E.B.tt = tt) (hX : ∀ f args os Kr Kp, E.B.W f args os Kr Kp → Wp T P tt f args os Kr Kp) (hm : P.follows .mixedOrders = true)
    {f : FuncId} {fn : Func} (hf : P.funcs[f]? = some fn) {args : List C} {os : List Ob} {K : List Ob → R} (h : evalRec E fn args os K) : WpD T P tt f args os K := by
  suffices main : ∀ (c : Ctx) (g : Gh) (vs : List Value), c.T = T → c.ds = [] → Inv tt c c.w0 g os → vs.length = args.length →
      (∀ i, i < args.length → RepC tt c.w0 (Now c c.w0 g os.length) g os (vs.getD i Go.undef) (args.getD i .undef)) →
      CallsD P f vs.toArray .returning c.w0 fun e u' w' => u' = .returning ∧ ∃ v g' os', e = .returned v ∧ Inv tt c w' g' os' ∧ Later g os g' os' ∧ K os' by
    refine ⟨fun c g vs hcT hI hvl hv => ?_⟩
    exact (main { c with ds := [] } g vs hcT rfl (hI.withDs []) hvl hv).mono fun e u' w' ⟨hu, v, g', os', h0, h1, h2, h3⟩ => ⟨hu, v, g', os', h0, h1.withDs c.ds, h2, h3⟩
  intro c g vs hcT hds hI hvl hv
  subst hcT
  unfold evalRec at h
  split at h
  · rename_i rid ops rest hbody
    split at h
    · rename_i o0 l hl
      obtain ⟨hr, h⟩ := bif_some3 h
      rw [putK_eq] at h
      have hst := RepSt.start (fn := fn) hI hds hvl hv
      refine callsD_of_wpS hf hbody fun c₀ cs hu => ?_
      refine wpS_seq (wpS_region ?_)
      have hsz : ops.size = l.length + 1 := by rw [← Array.length_toList, hl]; simp
      have h0 : ops[0]? = some o0 := by rw [← Array.getElem?_toList, hl]; rfl
      rw [hsz, List.range_eq_range', List.range'_succ]
      simp only [wpOpsS, h0]
      obtain ⟨hrun, hg⟩ := isRec_run (P := P) hr { tmps := vs.toArray ++ Array.replicate (fn.ntmps - vs.toArray.size) undef, defers := [] } c.w0
      have hw : Region.wanted o0 (yielded ops (vs.toArray ++ Array.replicate (fn.ntmps - vs.toArray.size) undef)) = true := by simp [Region.wanted, hg]
      simp only [hw, if_true, hrun, recoverD, hu]
      refine wpOpsS_of (Q' := Post tt c (bif Nat.ble fn.ntmps args.length then args.length else fn.ntmps) g os (recK E fn (bif Nat.ble fn.ntmps args.length then args.length else fn.ntmps) os.length rest K)) ?_ post_noOut _ _ _ ?_
      case refine_2 =>
        rw [show (0 : Nat) + 1 = 1 from rfl, wpOps_eq_wpList l 1 (fun j => by rw [← Array.getElem?_toList, hl, Nat.add_comm]; rfl)]
        exact evalOps_sound hT (E := { E with np := os.length, nt := _ }) hE rfl hX l 1 _ _ _ h ⟨g, hst.put o0.dst (.d _ _ .nilI), by rw [put_objs]; exact .refl _ _⟩
      case refine_1 =>
        intro e a w hq
        cases e with
        | normal =>
          obtain ⟨s, hat, hk⟩ := hq
          refine wpS_of_wp (wp_mono (evalCode_sound (tt := tt) (c := c) (gg := g) (os0 := os) hT (E := { E with np := os.length, nt := _ }) hE rfl hX hm hI.len rest 0 _ _ _ w hk hat) fun e a' w' hq => ?_)
          have hc₀ : c₀ :: cs = { c₀ with mode := .returning } :: cs := by rw [← hu]
          cases e with
          | normal =>
            obtain ⟨s, hat, hk⟩ := hq
            obtain ⟨v, hr, x', g'', os'', a1, a2, a3, a4⟩ := done_sound (E := E) hT hE hI.len hat hk
            exact ⟨(hat.choose_spec.1.dfr).trans hds, .returning, hc₀, v, hr, rfl, v, g'', os'', rfl, a1, a2, a4⟩
          | ret =>
            obtain ⟨s, hat, hk⟩ := hq
            obtain ⟨v, hr, x', g'', os'', a1, a2, a3, a4⟩ := done_sound (E := E) hT hE hI.len hat hk
            exact ⟨(hat.choose_spec.1.dfr).trans hds, .returning, hc₀, v, hr, rfl, v, g'', os'', rfl, a1, a2, a4⟩
          | panic ch => obtain ⟨v, rfl, s, g', x, b1, b2, b3, b4, b5⟩ := hq; exact b5.elim
          | exit i => obtain ⟨s, hat, hk⟩ := hq; exact hk.elim
          | goto l => exact hq.elim
          | outgrown => exact hq.elim
        | exit i => obtain ⟨s, hat, hk⟩ := hq; exact hk.elim
        | ret => obtain ⟨s, hat, hk⟩ := hq; exact hk.elim
        | panic ch => obtain ⟨v, rfl, s, g', x, b1, b2, b3, b4, b5⟩ := hq; exact b5.elim
        | goto l => exact hq.elim
        | outgrown => exact hq.elim
    · cases h
  · cases h

noncomputable section
end
end Go.Proofs.EN
namespace Go.Proofs.VT
open Go Go.Proofs Go.Proofs.EN
/-- The program's types. -/
def tree : TTree := (.node 140 ⟨.func, [.other], 8⟩ (.node 71 ⟨.func, [.other], 8⟩ (.node 37 ⟨.struct [(0, 9), (1, 35)], [.str, .list 40], 40⟩ (.node 18 ⟨.struct [(0, 17)], [.other], 8⟩ (.node 8 ⟨.struct [(0, 2), (1, 3), (2, 4), (3, 6)], [.int .i64, .int .i64, .bool, .int .u8], 24⟩ (.node 4 ⟨.bool, [.bool], 1⟩ (.node 2 ⟨.int .i64, [.int .i64], 8⟩ (.node 1 ⟨.func, [.other], 8⟩ .leaf .leaf) (.node 3 ⟨.int .i64, [.int .i64], 8⟩ .leaf .leaf)) (.node 6 ⟨.int .u8, [.int .u8], 1⟩ (.node 5 ⟨.int .u8, [.int .u8], 1⟩ .leaf .leaf) (.node 7 ⟨.struct [(0, 2), (1, 3), (2, 4), (3, 6)], [.int .i64, .int .i64, .bool, .int .u8], 24⟩ .leaf .leaf))) (.node 12 ⟨.int .u64, [.int .u64], 8⟩ (.node 10 ⟨.str, [.str], 16⟩ (.node 9 ⟨.str, [.str], 16⟩ .leaf .leaf) (.node 11 ⟨.str, [.str], 16⟩ .leaf .leaf)) (.node 16 ⟨.ptr 279, [.other], 8⟩ (.node 15 ⟨.ptr 276, [.other], 8⟩ .leaf .leaf) (.node 17 ⟨.ptr 286, [.other], 8⟩ .leaf .leaf)))) (.node 26 ⟨.func, [.other], 8⟩ (.node 22 ⟨.slice 5, [.list 5], 24⟩ (.node 20 ⟨.iface, [.iface], 16⟩ (.node 19 ⟨.struct [(0, 17)], [.other], 8⟩ .leaf .leaf) (.node 21 ⟨.int .i32, [.int .i32], 4⟩ .leaf .leaf)) (.node 24 ⟨.struct [(0, 23)], [.list 37], 24⟩ (.node 23 ⟨.slice 37, [.list 37], 24⟩ .leaf .leaf) (.node 25 ⟨.struct [(0, 23)], [.list 37], 24⟩ .leaf .leaf))) (.node 32 ⟨.func, [.other], 8⟩ (.node 29 ⟨.func, [.other], 8⟩ (.node 27 ⟨.func, [.other], 8⟩ .leaf .leaf) (.node 31 ⟨.func, [.other], 8⟩ .leaf .leaf)) (.node 35 ⟨.slice 40, [.list 40], 24⟩ (.node 34 ⟨.func, [.other], 8⟩ .leaf .leaf) (.node 36 ⟨.struct [(0, 9), (1, 35)], [.str, .list 40], 40⟩ .leaf .leaf))))) (.node 56 ⟨.struct [(0, 55), (1, 3)], [.list 141, .int .i64], 32⟩ (.node 47 ⟨.func, [.other], 8⟩ (.node 42 ⟨.func, [.other], 8⟩ (.node 39 ⟨.struct [(0, 9), (1, 38), (2, 9), (3, 4), (4, 4)], [.str, .list 68, .str, .bool, .bool], 64⟩ (.node 38 ⟨.slice 68, [.list 68], 24⟩ .leaf .leaf) (.node 40 ⟨.struct [(0, 9), (1, 38), (2, 9), (3, 4), (4, 4)], [.str, .list 68, .str, .bool, .bool], 64⟩ .leaf .leaf)) (.node 45 ⟨.func, [.other], 8⟩ (.node 43 ⟨.slice 9, [.list 9], 24⟩ .leaf .leaf) (.node 46 ⟨.func, [.other], 8⟩ .leaf .leaf))) (.node 51 ⟨.struct [(0, 3), (1, 3), (2, 9)], [.int .i64, .int .i64, .str], 32⟩ (.node 49 ⟨.func, [.other], 8⟩ (.node 48 ⟨.func, [.other], 8⟩ .leaf .leaf) (.node 50 ⟨.func, [.other], 8⟩ .leaf .leaf)) (.node 54 ⟨.func, [.other], 8⟩ (.node 52 ⟨.struct [(0, 3), (1, 3), (2, 9)], [.int .i64, .int .i64, .str], 32⟩ .leaf .leaf) (.node 55 ⟨.slice 141, [.list 141], 24⟩ .leaf .leaf)))) (.node 64 ⟨.func, [.other], 8⟩ (.node 60 ⟨.func, [.other], 8⟩ (.node 58 ⟨.func, [.other], 8⟩ (.node 57 ⟨.struct [(0, 55), (1, 3)], [.list 141, .int .i64], 32⟩ .leaf .leaf) (.node 59 ⟨.func, [.other], 8⟩ .leaf .leaf)) (.node 62 ⟨.func, [.other], 8⟩ (.node 61 ⟨.ptr 108, [.other], 8⟩ .leaf .leaf) (.node 63 ⟨.func, [.other], 8⟩ .leaf .leaf))) (.node 68 ⟨.struct [(0, 9), (1, 4)], [.str, .bool], 24⟩ (.node 66 ⟨.func, [.other], 8⟩ (.node 65 ⟨.func, [.other], 8⟩ .leaf .leaf) (.node 67 ⟨.struct [(0, 9), (1, 4)], [.str, .bool], 24⟩ .leaf .leaf)) (.node 70 ⟨.func, [.other], 8⟩ (.node 69 ⟨.func, [.other], 8⟩ .leaf .leaf) .leaf))))) (.node 105 ⟨.func, [.other], 8⟩ (.node 88 ⟨.func, [.other], 8⟩ (.node 80 ⟨.func, [.other], 8⟩ (.node 75 ⟨.func, [.other], 8⟩ (.node 73 ⟨.struct [(0, 3), (1, 3), (2, 9)], [.int .i64, .int .i64, .str], 32⟩ (.node 72 ⟨.slice 74, [.list 74], 24⟩ .leaf .leaf) (.node 74 ⟨.struct [(0, 3), (1, 3), (2, 9)], [.int .i64, .int .i64, .str], 32⟩ .leaf .leaf)) (.node 77 ⟨.func, [.other], 8⟩ (.node 76 ⟨.func, [.other], 8⟩ .leaf .leaf) (.node 78 ⟨.func, [.other], 8⟩ .leaf .leaf))) (.node 84 ⟨.func, [.other], 8⟩ (.node 82 ⟨.struct [(0, 72)], [.list 74], 24⟩ (.node 81 ⟨.ptr 83, [.other], 8⟩ .leaf .leaf) (.node 83 ⟨.struct [(0, 72)], [.list 74], 24⟩ .leaf .leaf)) (.node 86 ⟨.func, [.other], 8⟩ (.node 85 ⟨.func, [.other], 8⟩ .leaf .leaf) (.node 87 ⟨.func, [.other], 8⟩ .leaf .leaf)))) (.node 96 ⟨.func, [.other], 8⟩ (.node 92 ⟨.func, [.other], 8⟩ (.node 90 ⟨.func, [.other], 8⟩ (.node 89 ⟨.func, [.other], 8⟩ .leaf .leaf) (.node 91 ⟨.func, [.other], 8⟩ .leaf .leaf)) (.node 94 ⟨.func, [.other], 8⟩ (.node 93 ⟨.func, [.other], 8⟩ .leaf .leaf) (.node 95 ⟨.func, [.other], 8⟩ .leaf .leaf))) (.node 101 ⟨.func, [.other], 8⟩ (.node 99 ⟨.func, [.other], 8⟩ (.node 97 ⟨.func, [.other], 8⟩ .leaf .leaf) (.node 100 ⟨.func, [.other], 8⟩ .leaf .leaf)) (.node 103 ⟨.func, [.other], 8⟩ (.node 102 ⟨.func, [.other], 8⟩ .leaf .leaf) (.node 104 ⟨.func, [.other], 8⟩ .leaf .leaf))))) (.node 122 ⟨.struct [(0, 121), (1, 22)], [.other, .list 5], 32⟩ (.node 113 ⟨.func, [.other], 8⟩ (.node 109 ⟨.func, [.other], 8⟩ (.node 107 ⟨.struct [(0, 22), (1, 3), (2, 3)], [.list 5, .int .i64, .int .i64], 40⟩ (.node 106 ⟨.func, [.other], 8⟩ .leaf .leaf) (.node 108 ⟨.struct [(0, 22), (1, 3), (2, 3)], [.list 5, .int .i64, .int .i64], 40⟩ .leaf .leaf)) (.node 111 ⟨.func, [.other], 8⟩ (.node 110 ⟨.func, [.other], 8⟩ .leaf .leaf) (.node 112 ⟨.func, [.other], 8⟩ .leaf .leaf))) (.node 118 ⟨.func, [.other], 8⟩ (.node 115 ⟨.int .i64, [.int .i64], 8⟩ (.node 114 ⟨.func, [.other], 8⟩ .leaf .leaf) (.node 117 ⟨.func, [.other], 8⟩ .leaf .leaf)) (.node 120 ⟨.func, [.other], 8⟩ (.node 119 ⟨.func, [.other], 8⟩ .leaf .leaf) (.node 121 ⟨.ptr 123, [.other], 8⟩ .leaf .leaf)))) (.node 132 ⟨.func, [.other], 8⟩ (.node 126 ⟨.iface, [.iface], 16⟩ (.node 124 ⟨.func, [.other], 8⟩ (.node 123 ⟨.struct [(0, 121), (1, 22)], [.other, .list 5], 32⟩ .leaf .leaf) (.node 125 ⟨.iface, [.iface], 16⟩ .leaf .leaf)) (.node 129 ⟨.func, [.other], 8⟩ (.node 128 ⟨.func, [.other], 8⟩ .leaf .leaf) (.node 130 ⟨.func, [.other], 8⟩ .leaf .leaf))) (.node 136 ⟨.slice 165, [.list 165], 24⟩ (.node 134 ⟨.func, [.other], 8⟩ (.node 133 ⟨.func, [.other], 8⟩ .leaf .leaf) (.node 135 ⟨.func, [.other], 8⟩ .leaf .leaf)) (.node 139 ⟨.func, [.other], 8⟩ (.node 137 ⟨.func, [.other], 8⟩ .leaf .leaf) .leaf)))))) (.node 209 ⟨.func, [.other], 8⟩ (.node 175 ⟨.func, [.other], 8⟩ (.node 157 ⟨.struct [(0, 156)], [.list 192], 24⟩ (.node 148 ⟨.func, [.other], 8⟩ (.node 144 ⟨.func, [.other], 8⟩ (.node 142 ⟨.struct [(0, 3), (1, 3)], [.int .i64, .int .i64], 16⟩ (.node 141 ⟨.slice 143, [.list 143], 24⟩ .leaf .leaf) (.node 143 ⟨.struct [(0, 3), (1, 3)], [.int .i64, .int .i64], 16⟩ .leaf .leaf)) (.node 146 ⟨.func, [.other], 8⟩ (.node 145 ⟨.func, [.other], 8⟩ .leaf .leaf) (.node 147 ⟨.func, [.other], 8⟩ .leaf .leaf))) (.node 153 ⟨.func, [.other], 8⟩ (.node 150 ⟨.func, [.other], 8⟩ (.node 149 ⟨.func, [.other], 8⟩ .leaf .leaf) (.node 152 ⟨.func, [.other], 8⟩ .leaf .leaf)) (.node 155 ⟨.func, [.other], 8⟩ (.node 154 ⟨.ptr 5, [.other], 8⟩ .leaf .leaf) (.node 156 ⟨.slice 192, [.list 192], 24⟩ .leaf .leaf)))) (.node 165 ⟨.struct [(0, 3), (1, 3)], [.int .i64, .int .i64], 16⟩ (.node 161 ⟨.struct [(0, 158), (1, 159)], [.list 192, .list 179], 48⟩ (.node 159 ⟨.slice 179, [.list 179], 24⟩ (.node 158 ⟨.struct [(0, 156)], [.list 192], 24⟩ .leaf .leaf) (.node 160 ⟨.struct [(0, 158), (1, 159)], [.list 192, .list 179], 48⟩ .leaf .leaf)) (.node 163 ⟨.func, [.other], 8⟩ (.node 162 ⟨.func, [.other], 8⟩ .leaf .leaf) (.node 164 ⟨.struct [(0, 3), (1, 3)], [.int .i64, .int .i64], 16⟩ .leaf .leaf))) (.node 169 ⟨.func, [.other], 8⟩ (.node 167 ⟨.func, [.other], 8⟩ (.node 166 ⟨.func, [.other], 8⟩ .leaf .leaf) (.node 168 ⟨.func, [.other], 8⟩ .leaf .leaf)) (.node 172 ⟨.func, [.other], 8⟩ (.node 170 ⟨.slice 20, [.list 20], 24⟩ .leaf .leaf) (.node 173 ⟨.func, [.other], 8⟩ .leaf .leaf))))) (.node 191 ⟨.struct [(0, 3), (1, 9), (2, 9), (3, 190)], [.int .i64, .str, .str, .list 201], 64⟩ (.node 183 ⟨.func, [.other], 8⟩ (.node 179 ⟨.struct [(0, 9), (1, 177)], [.str, .int .i64, .int .i64, .str], 48⟩ (.node 177 ⟨.struct [(0, 3), (1, 3), (2, 9)], [.int .i64, .int .i64, .str], 32⟩ (.node 176 ⟨.func, [.other], 8⟩ .leaf .leaf) (.node 178 ⟨.struct [(0, 9), (1, 177)], [.str, .int .i64, .int .i64, .str], 48⟩ .leaf .leaf)) (.node 181 ⟨.func, [.other], 8⟩ (.node 180 ⟨.func, [.other], 8⟩ .leaf .leaf) (.node 182 ⟨.func, [.other], 8⟩ .leaf .leaf))) (.node 187 ⟨.slice 3, [.list 3], 24⟩ (.node 185 ⟨.func, [.other], 8⟩ (.node 184 ⟨.func, [.other], 8⟩ .leaf .leaf) (.node 186 ⟨.func, [.other], 8⟩ .leaf .leaf)) (.node 189 ⟨.func, [.other], 8⟩ (.node 188 ⟨.func, [.other], 8⟩ .leaf .leaf) (.node 190 ⟨.slice 201, [.list 201], 24⟩ .leaf .leaf)))) (.node 200 ⟨.struct [(0, 3), (1, 9), (2, 9), (3, 198), (4, 199), (5, 190)], [.int .i64, .str, .str, .list 222, .list 237, .list 201], 112⟩ (.node 196 ⟨.func, [.other], 8⟩ (.node 193 ⟨.func, [.other], 8⟩ (.node 192 ⟨.struct [(0, 3), (1, 9), (2, 9), (3, 190)], [.int .i64, .str, .str, .list 201], 64⟩ .leaf .leaf) (.node 194 ⟨.func, [.other], 8⟩ .leaf .leaf)) (.node 198 ⟨.slice 222, [.list 222], 24⟩ (.node 197 ⟨.func, [.other], 8⟩ .leaf .leaf) (.node 199 ⟨.slice 237, [.list 237], 24⟩ .leaf .leaf))) (.node 205 ⟨.func, [.other], 8⟩ (.node 202 ⟨.func, [.other], 8⟩ (.node 201 ⟨.struct [(0, 3), (1, 9), (2, 9), (3, 198), (4, 199), (5, 190)], [.int .i64, .str, .str, .list 222, .list 237, .list 201], 112⟩ .leaf .leaf) (.node 203 ⟨.func, [.other], 8⟩ .leaf .leaf)) (.node 208 ⟨.int .u64, [.int .u64], 8⟩ (.node 206 ⟨.func, [.other], 8⟩ .leaf .leaf) .leaf))))) (.node 248 ⟨.func, [.other], 8⟩ (.node 228 ⟨.ptr 251, [.other], 8⟩ (.node 219 ⟨.struct [(0, 72), (1, 3), (2, 4), (3, 4)], [.list 74, .int .i64, .bool, .bool], 40⟩ (.node 215 ⟨.func, [.other], 8⟩ (.node 212 ⟨.func, [.other], 8⟩ (.node 210 ⟨.func, [.other], 8⟩ .leaf .leaf) (.node 213 ⟨.func, [.other], 8⟩ .leaf .leaf)) (.node 217 ⟨.ptr 219, [.other], 8⟩ (.node 216 ⟨.func, [.other], 8⟩ .leaf .leaf) (.node 218 ⟨.struct [(0, 72), (1, 3), (2, 4), (3, 4)], [.list 74, .int .i64, .bool, .bool], 40⟩ .leaf .leaf))) (.node 223 ⟨.func, [.other], 8⟩ (.node 221 ⟨.func, [.other], 8⟩ (.node 220 ⟨.func, [.other], 8⟩ .leaf .leaf) (.node 222 ⟨.struct [(0, 9), (1, 177)], [.str, .int .i64, .int .i64, .str], 48⟩ .leaf .leaf)) (.node 225 ⟨.int .i64, [.int .i64], 8⟩ (.node 224 ⟨.func, [.other], 8⟩ .leaf .leaf) (.node 227 ⟨.func, [.other], 8⟩ .leaf .leaf)))) (.node 238 ⟨.func, [.other], 8⟩ (.node 233 ⟨.int .u32, [.int .u32], 4⟩ (.node 230 ⟨.func, [.other], 8⟩ (.node 229 ⟨.func, [.other], 8⟩ .leaf .leaf) (.node 231 ⟨.int .u64, [.int .u64], 8⟩ .leaf .leaf)) (.node 236 ⟨.struct [(0, 4), (1, 177)], [.bool, .int .i64, .int .i64, .str], 40⟩ (.node 235 ⟨.func, [.other], 8⟩ .leaf .leaf) (.node 237 ⟨.struct [(0, 4), (1, 177)], [.bool, .int .i64, .int .i64, .str], 40⟩ .leaf .leaf))) (.node 243 ⟨.func, [.other], 8⟩ (.node 241 ⟨.func, [.other], 8⟩ (.node 239 ⟨.func, [.other], 8⟩ .leaf .leaf) (.node 242 ⟨.func, [.other], 8⟩ .leaf .leaf)) (.node 245 ⟨.func, [.other], 8⟩ (.node 244 ⟨.func, [.other], 8⟩ .leaf .leaf) (.node 246 ⟨.func, [.other], 8⟩ .leaf .leaf))))) (.node 267 ⟨.func, [.other], 8⟩ (.node 259 ⟨.func, [.other], 8⟩ (.node 252 ⟨.func, [.other], 8⟩ (.node 250 ⟨.struct [(0, 9), (1, 9), (2, 126)], [.str, .str, .iface], 48⟩ (.node 249 ⟨.func, [.other], 8⟩ .leaf .leaf) (.node 251 ⟨.struct [(0, 9), (1, 9), (2, 126)], [.str, .str, .iface], 48⟩ .leaf .leaf)) (.node 255 ⟨.struct [(0, 5), (1, 5)], [.int .u8, .int .u8], 2⟩ (.node 254 ⟨.struct [(0, 5), (1, 5)], [.int .u8, .int .u8], 2⟩ .leaf .leaf) (.node 258 ⟨.func, [.other], 8⟩ .leaf .leaf))) (.node 263 ⟨.func, [.other], 8⟩ (.node 261 ⟨.func, [.other], 8⟩ (.node 260 ⟨.func, [.other], 8⟩ .leaf .leaf) (.node 262 ⟨.func, [.other], 8⟩ .leaf .leaf)) (.node 265 ⟨.func, [.other], 8⟩ (.node 264 ⟨.func, [.other], 8⟩ .leaf .leaf) (.node 266 ⟨.func, [.other], 8⟩ .leaf .leaf)))) (.node 280 ⟨.int .u8, [.int .u8], 1⟩ (.node 273 ⟨.func, [.other], 8⟩ (.node 269 ⟨.struct [(0, 9)], [.str], 16⟩ (.node 268 ⟨.ptr 270, [.other], 8⟩ .leaf .leaf) (.node 270 ⟨.struct [(0, 9)], [.str], 16⟩ .leaf .leaf)) (.node 275 ⟨.struct [(0, 17), (1, 17), (2, 17), (3, 9)], [.other, .other, .other, .str], 40⟩ (.node 274 ⟨.func, [.other], 8⟩ .leaf .leaf) (.node 276 ⟨.struct [(0, 17), (1, 17), (2, 17), (3, 9)], [.other, .other, .other, .str], 40⟩ .leaf .leaf))) (.node 284 ⟨.int .i32, [.int .i32], 4⟩ (.node 282 ⟨.func, [.other], 8⟩ (.node 281 ⟨.int .u8, [.int .u8], 1⟩ .leaf .leaf) (.node 283 ⟨.int .i32, [.int .i32], 4⟩ .leaf .leaf)) (.node 286 ⟨.struct [(0, 12), (1, 12), (2, 233), (3, 280), (4, 5), (5, 5), (6, 281), (7, 282), (8, 154), (9, 283), (10, 284)], [.int .u64, .int .u64, .int .u32, .int .u8, .int .u8, .int .u8, .int .u8, .other, .other, .int .i32, .int .i32], 48⟩ (.node 285 ⟨.struct [(0, 12), (1, 12), (2, 233), (3, 280), (4, 5), (5, 5), (6, 281), (7, 282), (8, 154), (9, 283), (10, 284)], [.int .u64, .int .u64, .int .u32, .int .u8, .int .u8, .int .u8, .int .u8, .other, .other, .int .i32, .int .i32], 48⟩ .leaf .leaf) .leaf)))))))
def tt : TypeId → Option TI := tree.find
def tup : TypeId → Option (List TypeId) := LTree.find (.node 138 [57, 3] (.node 53 [52, 3] (.node 33 [3, 3] (.node 30 [25, 3] (.node 28 [9, 3] .leaf .leaf) .leaf) (.node 44 [43, 3] (.node 41 [40, 3] .leaf .leaf) .leaf)) (.node 116 [115, 4] (.node 98 [52, 4] (.node 79 [72, 3] .leaf .leaf) .leaf) (.node 131 [3, 4] (.node 127 [3, 126] .leaf .leaf) .leaf))) (.node 214 [192, 3] (.node 195 [158, 3] (.node 171 [9, 9, 4] (.node 151 [74, 3, 4] .leaf .leaf) .leaf) (.node 211 [22, 9] (.node 204 [21, 3] .leaf .leaf) .leaf)) (.node 247 [208, 126] (.node 240 [192, 4] (.node 226 [2, 126] .leaf .leaf) .leaf) (.node 257 [233, 233] .leaf .leaf))))
set_option maxRecDepth 100000 in
theorem tree_ok : tree.ok Tryz.prog = true := by kernel_rfl
theorem ttok : TTok Tryz.prog tt := TTree.sound tree_ok
end Go.Proofs.VT
