/- Contracts of functions of this program, by the evaluator EN; part EN25. No conditions but those that each theorem states. -/
import Derived.Test.YtekcghhacpllaaaGreatDoorEN24
/- A table of types, checked by the kernel. -/
namespace Go.Proofs.EN
open Go
set_option linter.unusedVariables false
set_option linter.unusedSimpArgs false
variable {tt : TypeId → Option TI} {P : Program}

def isZeroB : CK → Value → Bool
  | .bool, .bool b => !b
  | .int k, .int j n => decide (j = k) && decide (n = 0)
  | .str, .string s => s.data.toList.isEmpty
  | .list _, .slice none n c => Nat.beq n 0 && Nat.beq c 0
  | .iface, .nilIface => true
  | .other, v => v.oneCell'
  | _, _ => false
def zerosB : List CK → List Value → Bool
  | [], [] => true
  | k :: ks, v :: vs => isZeroB k v && zerosB ks vs
  | _, _ => false
def ckB : List CK → List CK → Bool
  | [], [] => true
  | k :: ks, j :: js => k.beq j && ckB ks js
  | _, _ => false
def fsB : List (Nat × TypeId) → List Field → Bool
  | [], [] => true
  | (o, T) :: r, f :: fs => Nat.beq f.offset o && (Nat.beq f.type T && fsB r fs)
  | _, _ => false
def ukB (P : Program) (cells : List CK) (d : TypeDesc) : UK → Bool
  | .bool => (match d with | .bool => true | _ => false) && ckB cells [.bool]
  | .int k => (match d with | .int j => decide (j = k) | _ => false) && ckB cells [.int k]
  | .str => (match d with | .string => true | _ => false) && ckB cells [.str]
  | .slice e => (match d with | .slice e' => Nat.beq e' e | _ => false) && ckB cells [.list e]
  | .struct fs => match d with
    | .struct fields => fsB fs fields.toList && fields.toList.all fun f => (P.info? f.type).isSome
    | _ => false
  | .ptr e => (match d with | .pointer e' => Nat.beq e' e | _ => false) && ckB cells [.other]
  | .func => (match d with | .func _ _ _ => true | _ => false) && ckB cells [.other]
  | .map k v => (match d with | .map k' v' => Nat.beq k' k && Nat.beq v' v | _ => false) && ckB cells [.other]
  | .iface => (match d with | .interface _ => true | _ => false) && ckB cells [.iface]
  | .tuple _ => match d with | .tuple _ => true | _ => false
/-- A struct of numbers, texts and bools may be compared. -/
def eqsB (P : Program) (T : TypeId) (ti : TI) : Bool := bif ti.uk.isAgg && scalKs ti.cells then (match eqKs P 8 T with | some ks => ckB ks ti.cells | none => false) && !P.eqGuardType P.depth T else true
def okT (P : Program) (T : TypeId) (ti : TI) : Bool :=
  match P.info? T, P.underlying T with
  | some info, some d => Nat.beq info.size ti.cells.length && (Nat.beq info.bytes ti.bytes && (ukB P ti.cells d ti.uk && match info.zero with
    | some zv => zerosB ti.cells zv.cells.toList && ((match zv with | .agg _ => ti.uk.isAgg | v => !ti.uk.isAgg && v.oneCell') && eqsB P T ti)
    | none => false))
  | _, _ => false

theorem ckB_eq : ∀ {a b : List CK}, ckB a b = true → a = b
  | [], [], _ => rfl
  | k :: ks, j :: js, h => by
    simp only [ckB, Bool.and_eq_true] at h
    have h1 : k = j := CK.beq_eq h.1
    rw [h1, ckB_eq h.2]
  | [], _ :: _, h => by simp [ckB] at h
  | _ :: _, [], h => by simp [ckB] at h
theorem fsB_eq : ∀ {a : List (Nat × TypeId)} {b : List Field}, fsB a b = true → b.map (fun f => (f.offset, f.type)) = a
  | [], [], _ => rfl
  | (o, T) :: r, f :: fs, h => by
    simp only [fsB, Bool.and_eq_true] at h
    have h1 := Nat.eq_of_beq_eq_true h.1
    have h2 := Nat.eq_of_beq_eq_true h.2.1
    simp [fsB_eq h.2.2, h1, h2]
  | [], _ :: _, h => by simp [fsB] at h
  | _ :: _, [], h => by simp [fsB] at h
theorem isZeroB_eq {k : CK} {v : Value} (h : isZeroB k v = true) : (k ≠ .other → v = zeroV k) ∧ v.oneCell' = true := by
  cases k with
  | other => exact ⟨fun h => absurd rfl h, by cases v <;> exact h⟩
  | bool => cases v <;> simp [isZeroB] at h; subst h; exact ⟨fun _ => rfl, rfl⟩
  | int k => cases v <;> simp [isZeroB] at h; obtain ⟨rfl, rfl⟩ := h; exact ⟨fun _ => rfl, rfl⟩
  | str =>
    cases v <;> simp [isZeroB] at h
    rename_i s
    refine ⟨fun _ => ?_, rfl⟩
    show Value.string s = .string ⟨#[]⟩
    congr 1
    cases s
    simp at h
    rw [h]
  | list e =>
    cases v <;> try simp [isZeroB] at h
    rename_i a n c
    cases a <;> simp [isZeroB] at h
    obtain ⟨rfl, rfl⟩ := h
    exact ⟨fun _ => rfl, rfl⟩
  | iface => cases v <;> simp [isZeroB] at h; exact ⟨fun _ => rfl, rfl⟩
theorem zerosB_at : ∀ {ks : List CK} {vs : List Value}, zerosB ks vs = true → vs.length = ks.length ∧ ∀ i k, ks[i]? = some k → (k ≠ .other → vs.getD i Go.undef = zeroV k) ∧ (vs.getD i Go.undef).oneCell' = true
  | [], [], _ => ⟨rfl, fun i k h => by simp at h⟩
  | k :: ks, v :: vs, h => by
    simp only [zerosB, Bool.and_eq_true] at h
    obtain ⟨h1, h2⟩ := zerosB_at h.2
    refine ⟨by simp [h1], fun i k' hk => ?_⟩
    cases i with
    | zero =>
      simp only [List.getElem?_cons_zero, Option.some.injEq] at hk
      subst hk
      simpa using isZeroB_eq h.1
    | succ i => simpa using h2 i k' (by simpa using hk)
  | [], _ :: _, h => by simp [zerosB] at h
  | _ :: _, [], h => by simp [zerosB] at h
theorem eqsB_sound {T : TypeId} {ti : TI} (h : eqsB P T ti = true) (h1 : ti.uk.isAgg = true) (h2 : scalKs ti.cells = true) : eqKs P 8 T = some ti.cells ∧ P.eqGuardType P.depth T = false := by
  unfold eqsB at h
  rw [h1, h2] at h
  simp only [Bool.and_true, cond_true, Bool.and_eq_true, Bool.not_eq_true'] at h
  obtain ⟨h3, h4⟩ := h
  split at h3
  · rename_i ks hk
    rw [hk, ckB_eq h3]
    exact ⟨rfl, h4⟩
  · cases h3
theorem okT_sound {T : TypeId} {ti : TI} (h : okT P T ti = true) : ∃ info, TIok P T ti info := by
  unfold okT at h
  split at h
  · rename_i info d hi hd
    simp only [Bool.and_eq_true] at h
    obtain ⟨h1, h2, h3, h4⟩ := h
    split at h4
    · rename_i zv hz
      simp only [Bool.and_eq_true] at h4
      obtain ⟨h5, h6⟩ := zerosB_at h4.1
      have hg : ∀ i, zv.cells.toList.getD i Go.undef = zv.cells.getD i Go.undef := fun i => by simp [List.getD_eq_getElem?_getD, Array.getD_eq_getD_getElem?]
      refine ⟨info, hi, Nat.eq_of_beq_eq_true h1, Nat.eq_of_beq_eq_true h2, ?_, ⟨zv, hz, by simpa using h5, fun i k hk => ?_⟩, fun ha zv' hz' => ?_, fun ha => ?_, eqsB_sound h4.2.2⟩
      · cases hu : ti.uk <;> rw [hu] at h3 <;> simp only [ukB, Bool.and_eq_true] at h3 <;> simp only [UK.ok]
        case bool => cases d <;> simp at h3; exact ⟨hd, ckB_eq h3⟩
        case int k => cases d <;> simp at h3; obtain ⟨rfl, h3⟩ := h3; exact ⟨hd, ckB_eq h3⟩
        case str => cases d <;> simp at h3; exact ⟨hd, ckB_eq h3⟩
        case slice e => cases d <;> simp at h3; obtain ⟨rfl, h3⟩ := h3; exact ⟨hd, ckB_eq h3⟩
        case struct fs =>
          cases d <;> simp only [Bool.false_eq_true] at h3
          rename_i fields
          simp only [Bool.and_eq_true, List.all_eq_true] at h3
          exact ⟨fields, hd, fsB_eq h3.1, h3.2⟩
        case ptr e => cases d <;> simp at h3; obtain ⟨rfl, h3⟩ := h3; exact ⟨hd, ckB_eq h3⟩
        case func => cases d <;> simp at h3; exact ⟨⟨_, _, _, hd⟩, ckB_eq h3⟩
        case map k v => cases d <;> simp at h3; obtain ⟨⟨rfl, rfl⟩, h3⟩ := h3; exact ⟨hd, ckB_eq h3⟩
        case iface => cases d <;> simp at h3; exact ⟨⟨_, hd⟩, ckB_eq h3⟩
        case tuple ts => cases d <;> simp at h3; exact ⟨_, hd⟩
      · have := h6 i k hk
        rwa [hg] at this
      · rw [hz] at hz'
        cases hz'
        have h7 := h4.2.1
        rw [ha] at h7
        cases zv <;> first | exact h7 | cases h7
      · have h7 := h4.2.1
        rw [ha] at h7
        cases zv with
        | agg vs => exact ⟨vs, hz⟩
        | _ => simp at h7
    · cases h4
  · cases h

/-! ### The table as a tree -/
inductive TTree where
  | leaf
  | node (k : Nat) (ti : TI) (l r : TTree)
def TTree.find : TTree → Nat → Option TI
  | .leaf, _ => none
  | .node k ti l r, n => bif Nat.beq n k then some ti else bif Nat.blt n k then l.find n else r.find n
def TTree.ok (P : Program) : TTree → Bool
  | .leaf => true
  | .node k ti l r => okT P k ti && (l.ok P && r.ok P)
inductive LTree (α : Type) where
  | leaf
  | node (k : Nat) (x : α) (l r : LTree α)
def LTree.find {α : Type} : LTree α → Nat → Option α
  | .leaf, _ => none
  | .node k x l r, n => bif Nat.beq n k then some x else bif Nat.blt n k then l.find n else r.find n
theorem TTree.sound {t : TTree} (h : t.ok P = true) : TTok P t.find := by
  intro T ti hf
  induction t with
  | leaf => cases hf
  | node k tk l r ihl ihr =>
    simp only [TTree.ok, Bool.and_eq_true] at h
    simp only [TTree.find] at hf
    cases hb : Nat.beq T k with
    | true =>
      have := Nat.eq_of_beq_eq_true hb
      subst this
      simp only [hb, cond_true, Option.some.injEq] at hf
      subst hf
      exact okT_sound h.1
    | false =>
      simp only [hb, cond_false] at hf
      cases hl : Nat.blt T k with
      | true =>
        simp only [hl, cond_true] at hf
        exact ihl h.2.1 hf
      | false =>
        simp only [hl, cond_false] at hf
        exact ihr h.2.2 hf


/-! ### Functions that hand back a value and do nothing else, by contracts of their own -/
theorem RepC.ren_data {w w' : World} {S S' : Nat → Prop} {g g' : Gh} {os os' : List Ob} (hS : ∀ b, S b → S' b ∧ w'.heap[b]? = w.heap[b]?) {v : Value} {x : C} (hx : x.ren (fun _ => none) = x) (h : RepC tt w S g os v x) : RepC tt w' S' g' os' v x := by
  have := h.ren (m := fun _ => none) hS (LaterM.none g os g' os')
  rwa [hx] at this
theorem Wp.ofPure {T : Tabs} {f : FuncId} {args : List C} {cv : C} {Kr Kp : C → List Ob → R} (henter : ∀ args w, (callFunc f args).run P w = .ok (.enter f args) w) (hn : ∀ i, i < args.length → ((args.getD i .undef).ren fun _ => none) = args.getD i .undef) (hcv : cv.ren (fun _ => none) = cv)
    (hc : ∀ (w : World) (S : Nat → Prop) (vs : List Value), (∀ b, S b → b < w.heap.size) → T.ok w → vs.length = args.length → (∀ i, i < args.length → RepC tt w S g0 [] (vs.getD i Go.undef) (args.getD i .undef)) →
      Calls P f vs.toArray w fun e w' => ∃ v, e = .returned v ∧ Kept (fun _ => False) w w' ∧ RepC tt w' (fun b => S b ∨ (w.heap.size ≤ b ∧ b < w'.heap.size)) g0 [] v cv) (hk : Kr cv []) : Wp T P tt f args [] Kr Kp := by
  refine ⟨henter, fun c g vs hcT hI hvl hv => ?_⟩
  subst hcT
  refine (hc c.w0 (Now c c.w0 g ([] : List Ob).length) vs (fun b hb => (hI.now_lt hb).1) hI.tab.1 hvl (fun i hi => (hv i hi).ren_data (fun b hb => ⟨hb, rfl⟩) (hn i hi))).mono ?_
  rintro e w' ⟨v, rfl, hkp, hr⟩
  have hch : Chg c c.w0 g [] w' g [] :=
    ⟨hI.len, .refl _ _, fun b hb => .inl hb, fun b ⟨o, ho, _⟩ => by simp at ho, fun b hb _ => hkp.block b hb (fun h => h), hkp.size, hkp.os, hkp.tape, hkp.output, fun o o' b h => by simp at h⟩
  refine ⟨v, cv, g, [], hch.inv hI fun o ob u h1 h2 => by simp at h1, .refl _ _, hr.ren_data (fun b hb => ⟨?_, rfl⟩) hcv, .inl ⟨rfl, hk⟩⟩
  rcases hb with hb | ⟨h1, h2⟩
  · exact (hch.now hI b hb).1
  · exact .inr ⟨.inl h1, h2, fun ⟨o, ho, _⟩ => by simp at ho⟩

end Go.Proofs.EN
