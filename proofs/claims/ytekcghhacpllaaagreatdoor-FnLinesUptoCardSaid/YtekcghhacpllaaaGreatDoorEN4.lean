/- Contracts of functions of this program, by the evaluator EN. No conditions but those that each theorem states. -/
import Derived.Test.YtekcghhacpllaaaGreatDoorEN3
import Derived.Laws.BytesString
import Derived.Laws.Slices
import Derived.Laws.MakeOwn
/- Slices looked at. -/
namespace Go.Proofs.EN
open Go
set_option linter.unusedVariables false
set_option linter.unusedSimpArgs false
variable {tt : TypeId → Option TI} {P : Program} {c : Ctx} {w : World} {g : Gh} {os : List Ob} {S : Nat → Prop}

theorem Inv.now_lt (hI : Inv tt c w g os) {b : Nat} (h : Now c w g os.length b) : b < w.heap.size ∧ ¬ Tracked g os.length b := by
  rcases h with h | ⟨_, h1, h2⟩
  · have h0 := hI.s0 b h
    refine ⟨Nat.lt_of_lt_of_le h0.1 hI.kept.size, fun ⟨o, ho, ht⟩ => ?_⟩
    rcases (hI.own o b ho ht).1 with h1 | h1
    · omega
    · exact h0.2 h1
  · exact ⟨h1, h2⟩

theorem getD_some {o : Nat} {ob : Ob} (h : os.getD o .dead = ob) (hne : ob ≠ .dead) : os[o]? = some ob := by
  rw [List.getD_eq_getElem?_getD] at h
  cases hq : os[o]? with
  | none => simp [hq] at h; exact absurd h.symm hne
  | some q => simp [hq] at h; rw [h]
theorem some_getD {o : Nat} {ob : Ob} (h : os[o]? = some ob) : os.getD o .dead = ob := by
  rw [List.getD_eq_getElem?_getD, h]; rfl
theorem ob_lt {o : Nat} {ob : Ob} (h : os[o]? = some ob) : o < os.length := (List.getElem?_eq_some_iff.1 h).1
theorem Inv.eta (hI : Inv tt c w g os) {o : Nat} {ob : Ob} (h : os[o]? = some ob) : ∃ v, g.η[o]? = some v := by
  have := ob_lt h
  have := hI.len
  exact ⟨g.η[o], by simp [show o < g.η.length by omega]⟩
theorem isZ_up (m : Md) : m.up.isZ = false := by cases m <;> rfl
theorem isZ_lv {md : Md} (h : md.isZ = true) : md = .lv 0 := by
  cases md with
  | lv n => cases n with
    | zero => rfl
    | succ n => cases h
  | deep => cases h
theorem Md.beq_eq {a b : Md} (h : Md.beq a b = true) : a = b := by
  cases a <;> cases b <;> simp [Md.beq] at h <;> simp [h]
theorem up_inj {a b : Md} (h : a.up = b.up) : a = b := by
  cases a <;> cases b <;> simp [Md.up] at h <;> simp [h]
theorem up_down {m : Md} (h : m.isZ = false) : m.down.up = m := by
  cases m with
  | lv n => cases n with
    | zero => cases h
    | succ n => rfl
  | deep => rfl

/-- What lies in a slice that is owned. -/
def Cells (tt : TypeId → Option TI) (w : World) (S : Nat → Prop) (md : Md) (T : TypeId) (xs : List (List D)) (a : Option Addr) (cap : Nat) (φ : Nat → Prop) : Prop :=
  ∃ ti, tt T = some ti ∧ dataKs ti.cells = true ∧ 0 < ti.cells.length ∧ (∀ i, i < xs.length → fitsAll ti.cells (xs.getD i [])) ∧ ∃ (b : Nat) (vs : Array Value) (φs : Nat → Nat → Nat → Prop), a = some ⟨b, 0, none⟩ ∧ w.heap[b]? = some (.cells vs T (0, 0)) ∧ vs.size = cap * ti.cells.length ∧ φ b ∧
    (∀ i j x, i < xs.length → j < ti.cells.length → φs i j x → φ x ∧ x ≠ b) ∧
    (∀ i j i' j' x, i < xs.length → j < ti.cells.length → i' < xs.length → j' < ti.cells.length → φs i j x → φs i' j' x → i = i' ∧ j = j') ∧
    ∀ i j, i < xs.length → j < ti.cells.length → RepW tt w S md (vs.getD (i * ti.cells.length + j) Go.undef) ((xs.getD i []).getD j .z) (φs i j)
theorem RepW.list_inv {md : Md} {v : Value} {T : TypeId} {xs : List (List D)} {φ : Nat → Prop} (h : RepW tt w S md v (.list T xs) φ) (hz : md.isZ = false) :
    ∃ a cap, v = .slice a xs.length cap ∧ xs.length ≤ big ∧ xs.length ≤ cap ∧ (0 < cap → Cells tt w S md.down T xs a cap φ) := by
  cases h with
  | froz _ _ _ h => cases hz
  | sc _ _ _ _ h hs => cases hs
  | zero _ _ a => exact ⟨a, 0, rfl, by simp, by simp, fun h => by omega⟩
  | list m _ ti _ cap b _ vs φs ht hd hk hcap hc0 hb hfit hh hsz hφ hφs hdj hr =>
    refine ⟨_, cap, rfl, hb, hcap, fun _ => ⟨ti, ht, hd, hk, hfit, b, vs, φs, rfl, hh, hsz, hφ, hφs, hdj, ?_⟩⟩
    have : m.up.down = m := up_inj (up_down (isZ_up m))
    rw [this]
    exact hr
theorem Cells.repW {md : Md} {T : TypeId} {xs : List (List D)} {a : Option Addr} {cap : Nat} {φ : Nat → Prop} (h : Cells tt w S md T xs a cap φ) (h0 : 0 < cap) (hc : xs.length ≤ cap) (hb : xs.length ≤ big) : RepW tt w S md.up (.slice a xs.length cap) (.list T xs) φ := by
  obtain ⟨ti, ht, hd, hk, hfit, b, vs, φs, rfl, hh, hsz, hφ, hφs, hdj, hr⟩ := h
  exact .list md T ti xs cap b φ vs φs ht hd hk hc h0 hb hfit hh hsz hφ hφs hdj hr
theorem RowX.cells {md : Md} {v : Value} {T : TypeId} {xs : List (List D)} {φ : Nat → Prop} {ν : Nat → Nat → Value} (h : RowX tt w S (fun _ _ => False) md v T xs φ ν) :
    ∃ a cap, v = .slice a xs.length cap ∧ xs.length ≤ big ∧ xs.length ≤ cap ∧ (∃ ti, tt T = some ti ∧ dataKs ti.cells = true ∧ 0 < ti.cells.length ∧ ∀ i, i < xs.length → fitsAll ti.cells (xs.getD i [])) ∧ (0 < cap → Cells tt w S md T xs a cap φ) := by
  obtain ⟨a, cap, ti, rfl, ht, hd, hk, hfit, hle, hb, hc⟩ := h
  refine ⟨a, cap, rfl, hb, hle, ⟨ti, ht, hd, hk, hfit⟩, fun h0 => ?_⟩
  obtain ⟨b, vs, φs, rfl, hh, hsz, hφ, hφs, hdj, hr, _⟩ := hc h0
  exact ⟨ti, ht, hd, hk, hfit, b, vs, φs, rfl, hh, hsz, hφ, fun i j x hi hj => hφs i j x hi hj (fun h => h), fun i j i' j' x hi hj hi' hj' => hdj i j i' j' x hi hj hi' hj' (fun h => h) (fun h => h), fun i j hi hj => hr i j hi hj (fun h => h)⟩
theorem RowX.repW {md : Md} {v : Value} {T : TypeId} {xs : List (List D)} {φ : Nat → Prop} {ν : Nat → Nat → Value} (h : RowX tt w S (fun _ _ => False) md v T xs φ ν) : RepW tt w S md.up v (.list T xs) φ := by
  obtain ⟨a, cap, rfl, hb, hle, _, hc⟩ := h.cells
  rcases Nat.eq_zero_or_pos cap with h0 | h0
  · subst h0
    have : xs = [] := List.eq_nil_of_length_eq_zero (by omega)
    subst this
    exact .zero _ _ _ _
  · exact (hc h0).repW h0 hle hb

/-- A slice that stands in a row's cell. -/
theorem nst_inv {o : Nat} {T : TypeId} {md : Md} {ver : Nat} {xs : List (List D)} {v0 : Value} (h : RepO tt w S g os o (.row T md ver xs) v0) (hz : md.isZ = false) {i off : Nat} {e : TypeId} {ti : TI} (hi : i < xs.length) (ht : tt T = some ti) (he : ti.cells[off]? = some (.list e)) :
    ∃ φ', (∀ x, φ' x → g.φ o x) ∧ (xs.getD i []).getD off .z = .list e (nstF xs i off) ∧ RepW tt w S md (g.ν o i off) (.list e (nstF xs i off)) φ' := by
  obtain ⟨a, cap, ti', rfl, ht', hd, hk, hfit, hle, hb, hc⟩ := h
  rw [ht] at ht'; cases ht'
  obtain ⟨b, vs, φs, rfl, hh, hsz, hφ, hφs, hdj, hr, hv⟩ := hc (by omega)
  have hoff : off < ti.cells.length := (List.getElem?_eq_some_iff.1 he).1
  obtain ⟨ys, hys⟩ := fitsAll_at (hfit i hi) off _ he
  have hn : nstF xs i off = ys := by unfold nstF; rw [hys]; rfl
  refine ⟨φs i off, fun x hx => (hφs i off x hi hoff (fun h => h) hx).1, by rw [hn, hys], ?_⟩
  have := hr i off hi hoff (fun h => h)
  rw [(hv i off e hi he).1, hys] at this
  rw [hn]
  exact this

theorem mapOK_inv {K V : TypeId} {ck cv : CK} (h : mapOK tt K V = some (ck, cv)) : ∃ tk tv, tt K = some tk ∧ tt V = some tv ∧ keyK tk.uk = some ck ∧ tv.cells = [cv] ∧ cv.data = true ∧ tv.uk.isAgg = false ∧ ksBeq tk.cells [ck] = true := by
  unfold mapOK at h
  split at h
  · rename_i tk tv h1 h2
    split at h
    · rename_i ck' cv' h3 h4
      cases hb : ((cv'.data && !tv.uk.isAgg) && ksBeq tk.cells [ck']) with
      | false => rw [hb] at h; cases h
      | true =>
        rw [hb] at h
        simp only [cond_true, Option.some.injEq, Prod.mk.injEq] at h
        obtain ⟨rfl, rfl⟩ := h
        simp only [Bool.and_eq_true, Bool.not_eq_true'] at hb
        exact ⟨tk, tv, h1, h2, h3, h4, hb.1.1, hb.1.2, hb.2⟩
    · cases h
  · cases h
theorem mapOK_cv {K V : TypeId} {ck cv k : CK} {ti : TI} (h : mapOK tt K V = some (ck, cv)) (ht : tt V = some ti) (he : ti.cells[0]? = some k) : cv = k := by
  obtain ⟨_, tv, _, h2, _, h4, _⟩ := mapOK_inv h
  rw [ht] at h2; cases h2
  rw [h4] at he
  simpa using he
/-- A slice that stands in a map's entry. -/
theorem map_inv {o : Nat} {K V : TypeId} {md : Md} {ver : Nat} {es : List (D × D)} {v0 : Value} (h : RepO tt w S g os o (.map K V md ver es) v0) {i : Nat} {e : TypeId} {ti : TI} (hi : i < es.length) (ht : tt V = some ti) (he : ti.cells[0]? = some (.list e)) :
    ∃ φ', (∀ x, φ' x → g.φ o x) ∧ (es.getD i (.z, .z)).2 = .list e (mapF es i) ∧ RepW tt w S md (g.ν o i 0) (.list e (mapF es i)) φ' := by
  obtain ⟨b, ents, clock, ck, cv, φs, rfl, hh, hk, hφb, hsz, hφs, hdj, hr⟩ := h
  have hcv := mapOK_cv hk ht he
  subst hcv
  obtain ⟨m, h1, h2, ⟨ys, hys⟩, h4, h5, h6, h7⟩ := hr i es[i] (List.getElem?_eq_getElem hi)
  have e0 : es.getD i (.z, .z) = es[i] := by simp [List.getD_eq_getElem?_getD, hi]
  have e1 : mapF es i = ys := by unfold mapF; rw [e0, hys]; rfl
  have h8 := h5 (fun h => h)
  rw [hys] at h8
  exact ⟨φs i, fun x hx => (hφs i x hi (fun h => h) hx).1, by rw [e0, e1, hys], by rw [h6, e1]; exact h8⟩

/-- Everything that lies in memory. -/
def All (w : World) (b : Nat) : Prop := b < w.heap.size
theorem Inv.now_all (hI : Inv tt c w g os) {b : Nat} (h : Now c w g os.length b) : All w b := (hI.now_lt h).1

/-- How elements lie in memory. -/
def Laid (tt : TypeId → Option TI) (w : World) (S : Nat → Prop) (B : Nat → Prop) (e : TypeId) (xs : List (List D)) (a : Option Addr) : Prop :=
  ∃ ti, tt e = some ti ∧ dataKs ti.cells = true ∧ 0 < ti.cells.length ∧ (∀ i, i < xs.length → fitsAll ti.cells (xs.getD i [])) ∧
    ∃ b off, a = some ⟨b, off, none⟩ ∧ b < w.heap.size ∧ B b ∧ ∃ vs : Nat → Nat → Value, (∀ i j, i < xs.length → j < ti.cells.length → w.cell? ⟨b, off + (i * ti.cells.length + j), none⟩ = some (vs i j)) ∧
      ∀ i j, i < xs.length → j < ti.cells.length → Rep tt w S (vs i j) ((xs.getD i []).getD j .z)
theorem Rep.laid {a : Option Addr} {n cap : Nat} {T : TypeId} {xs : List (List D)} (h : Rep tt w S (.slice a n cap) (.list T xs)) : n = xs.length ∧ xs.length ≤ cap ∧ xs.length ≤ big ∧ (0 < xs.length → Laid tt w S S T xs a) := by
  cases h with
  | nil => exact ⟨rfl, by simp, by simp, fun h => by simp at h⟩
  | list _ ti _ _ _ b off vs ht hd hk hcp hb hfit ha hc hr =>
    refine ⟨rfl, hcp, hb, fun h0 => ⟨ti, ht, hd, hk, hfit, b, off, (ha h0).1, ?_, (ha h0).2, vs, hc, hr⟩⟩
    exact World.block_lt_of_cell? (a := ⟨b, off + (0 * ti.cells.length + 0), none⟩) w (hc 0 0 h0 hk)
theorem Rep.slice {v : Value} {T : TypeId} {xs : List (List D)} (h : Rep tt w S v (.list T xs)) : ∃ a cap, v = .slice a xs.length cap := by
  cases h with
  | nil _ a cap => exact ⟨a, cap, rfl⟩
  | list _ ti _ a cap => exact ⟨a, cap, rfl⟩
theorem Laid.mono {S' B B' : Nat → Prop} {e : TypeId} {xs : List (List D)} {a : Option Addr} (h : Laid tt w S B e xs a) (hS : ∀ b, S b → S' b) (hB : ∀ b, B b → B' b) : Laid tt w S' B' e xs a := by
  obtain ⟨ti, h1, h2, h3, h4, b, off, h5, h6, h7, vs, h8, h9⟩ := h
  exact ⟨ti, h1, h2, h3, h4, b, off, h5, h6, hB b h7, vs, h8, fun i j hi hj => (h9 i j hi hj).mono fun b hb => ⟨hS b hb, rfl⟩⟩
theorem Laid.sub {B : Nat → Prop} {e : TypeId} {xs : List (List D)} {a : Option Addr} (h : Laid tt w S B e xs a) {lo n : Nat} (hn : lo + n ≤ xs.length) (cap : Nat) (hc : cap = lo → n = 0) (h0 : 0 < n) (k : Nat) (hk : ∀ ti, tt e = some ti → k = ti.cells.length) :
    Laid tt w S B e ((xs.take (lo + n)).drop lo) (if cap = lo then a else a.map (·.add (lo * k))) := by
  obtain ⟨ti, h1, h2, h3, h4, b, off, rfl, h6, h7, vs, h8, h9⟩ := h
  have := hk ti h1
  subst this
  have hl : ((xs.take (lo + n)).drop lo).length = n := by simp; omega
  have hg : ∀ i, i < n → ((xs.take (lo + n)).drop lo).getD i [] = xs.getD (lo + i) [] := fun i hi => by
    simp [List.getD_eq_getElem?_getD, show lo + i < lo + n by omega]
  refine ⟨ti, h1, h2, h3, fun i hi => ?_, b, off + lo * ti.cells.length, ?_, h6, h7, fun i j => vs (lo + i) j, fun i j hi hj => ?_, fun i j hi hj => ?_⟩
  · rw [hl] at hi
    rw [hg i hi]
    exact h4 _ (by omega)
  · rw [if_neg (fun e => by have := hc e; omega)]
    simp [Addr.add_lit]
  · rw [hl] at hi
    rw [show off + lo * ti.cells.length + (i * ti.cells.length + j) = off + ((lo + i) * ti.cells.length + j) by rw [Nat.add_mul]; omega]
    exact h8 _ _ (by omega) hj
  · rw [hl] at hi
    rw [hg i hi]
    exact h9 _ _ (by omega) hj

def C.own : C → Bool
  | .row _ => true
  | .nst _ _ _ _ _ => true
  | .nsl _ _ _ _ _ _ _ => true
  | _ => false

/-- Slices looked at. -/
theorem elems_rep {e : TypeId} {cx : C} {v : Value} {xs : List (List D)} (hI : Inv tt c w g os) (h : elems e cx os = some xs) (hx : RepC tt w (Now c w g os.length) g os v cx) :
    ∃ a cap, v = .slice a xs.length cap ∧ xs.length ≤ big ∧ xs.length ≤ cap ∧ (0 < xs.length → Laid tt w (All w) (All w) e xs a ∧ (cx.own = false → Laid tt w (Now c w g os.length) (Now c w g os.length) e xs a)) := by
  have data : ∀ {a : Option Addr} {cap : Nat}, v = .slice a xs.length cap → Rep tt w (Now c w g os.length) (.slice a xs.length cap) (.list e xs) →
      ∃ a cap, v = .slice a xs.length cap ∧ xs.length ≤ big ∧ xs.length ≤ cap ∧ (0 < xs.length → Laid tt w (All w) (All w) e xs a ∧ (cx.own = false → Laid tt w (Now c w g os.length) (Now c w g os.length) e xs a)) := by
    intro a cap hv hr
    obtain ⟨_, h2, h3, h4⟩ := hr.laid
    exact ⟨a, cap, hv, h3, h2, fun h0 => ⟨(h4 h0).mono (fun b hb => hI.now_all hb) (fun b hb => hI.now_all hb), fun _ => h4 h0⟩⟩
  have own : ∀ {a : Option Addr} {n cap : Nat}, cx.own = true → v = .slice a n cap → Rep tt w (All w) (.slice a n cap) (.list e xs) →
      ∃ a cap, v = .slice a xs.length cap ∧ xs.length ≤ big ∧ xs.length ≤ cap ∧ (0 < xs.length → Laid tt w (All w) (All w) e xs a ∧ (cx.own = false → Laid tt w (Now c w g os.length) (Now c w g os.length) e xs a)) := by
    intro a n cap ho hv hr
    obtain ⟨h1, h2, h3, h4⟩ := hr.laid
    subst h1
    exact ⟨a, cap, hv, h3, h2, fun h0 => ⟨h4 h0, fun hf => by rw [ho] at hf; cases hf⟩⟩
  have frz : ∀ {md : Md} {u : Value} {d : D} {φ : Nat → Prop} {o : Nat}, RepW tt w (Now c w g os.length) md u d φ → o < os.length → (∀ x, φ x → g.φ o x) → Rep tt w (All w) u d := by
    intro md u d φ o hr ho hφ
    exact hr.frz (fun b hb => hI.now_all hb) fun b hb => (hI.own o b ho (hφ b hb)).2
  have nested : ∀ {o ver i off : Nat} {T0 : TypeId} {md : Md} {xs0 : List (List D)}, os[o]? = some (.row T0 md ver xs0) → md.isZ = false → i < xs0.length → (∃ ti, tt T0 = some ti ∧ ti.cells[off]? = some (.list e)) →
      ∃ a n cap, g.ν o i off = .slice a n cap ∧ Rep tt w (All w) (.slice a n cap) (.list e (nstF xs0 i off)) := by
    intro o ver i off T0 md xs0 ho hz hi ⟨ti, ht, he⟩
    obtain ⟨v0, hv0⟩ := hI.eta ho
    obtain ⟨φ', h1, h2, h3⟩ := nst_inv (hI.ob o _ v0 ho hv0) hz hi ht he
    have := frz h3 (ob_lt ho) h1
    obtain ⟨a, cap, he⟩ := this.slice
    exact ⟨a, _, cap, he, by rw [← he]; exact this⟩
  unfold elems at h
  split at h
  · rename_i T ys
    cases hT : Nat.beq T e with
    | false => simp [hT] at h
    | true =>
      have hT' : T = e := Nat.eq_of_beq_eq_true hT
      simp only [hT, cond_true, Option.some.injEq] at h
      subst h hT'
      obtain ⟨a, cap, rfl⟩ := hx.d_inv.slice
      exact data rfl hx.d_inv
  · rename_i T ys
    cases hT : Nat.beq T e with
    | false => simp [hT] at h
    | true =>
      have hT' : T = e := Nat.eq_of_beq_eq_true hT
      simp only [hT, cond_true, Option.some.injEq] at h
      subst h hT'
      cases hx with
      | full a _ _ n hn h => subst hn; exact data rfl h
  · simp only [Option.some.injEq] at h
    subst h
    cases hx with
    | cap0 a => exact ⟨a, 0, rfl, by simp, by simp, fun h => by simp at h⟩
  · rename_i o
    split at h
    · rename_i T md ver ys ho
      cases hT : Nat.beq T e with
      | false => simp [hT] at h
      | true =>
        have hT' : T = e := Nat.eq_of_beq_eq_true hT
        simp only [hT, cond_true, Option.some.injEq] at h
        subst h hT'
        have ho' := getD_some ho (by simp)
        cases hx with
        | row _ _ hol hrow h1 =>
          have hv := hrow (by rw [ho']; simp)
          have := frz (hI.ob o _ v ho' hv).repW (ob_lt ho') (fun _ h => h)
          obtain ⟨a, cap, rfl⟩ := this.slice
          exact own rfl rfl this
    · rename_i T ys ho
      cases hT : Nat.beq T e with
      | false => simp [hT] at h
      | true =>
        have hT' : T = e := Nat.eq_of_beq_eq_true hT
        simp only [hT, cond_true, Option.some.injEq] at h
        subst h hT'
        have ho' := getD_some ho (by simp)
        cases hx with
        | row _ _ hol hrow h1 =>
          have hv := hrow (by rw [ho']; simp)
          have hr : Rep tt w (Now c w g os.length) v (.list T ys) := hI.ob o _ v ho' hv
          obtain ⟨a, cap, rfl⟩ := hr.slice
          exact data rfl hr
    · cases h
  · rename_i e' o ver i off
    split at h
    · rename_i T0 md ver' xs0 ho
      obtain ⟨hc1, hxs⟩ : (Nat.beq e' e && (Nat.beq ver ver' && !md.isZ)) = true ∧ nstF xs0 i off = xs := by
        cases hb : (Nat.beq e' e && (Nat.beq ver ver' && !md.isZ)) with
        | false => simp [hb] at h
        | true => simpa [hb] using h
      simp only [Bool.and_eq_true, Bool.not_eq_true'] at hc1
      obtain ⟨h1, h2, h3⟩ := hc1
      have h1 := Nat.eq_of_beq_eq_true h1
      have h2 := Nat.eq_of_beq_eq_true h2
      subst h1 h2 hxs
      have ho' := getD_some ho (by simp)
      cases hx with
      | nst _ _ _ _ _ _ hol hn hone =>
        obtain ⟨rfl, hi, hti⟩ := (hn T0 _ _ (.inl ⟨md, xs0, ho', rfl⟩)).2 rfl
        obtain ⟨a, n, cap, h5, h6⟩ := nested ho' h3 hi hti
        exact own rfl h5 h6
    · rename_i K T0 md ver' es0 ho
      obtain ⟨hc1, hxs⟩ : (Nat.beq e' e && (Nat.beq ver ver' && (!md.isZ && Nat.beq off 0))) = true ∧ mapF es0 i = xs := by
        cases hb : (Nat.beq e' e && (Nat.beq ver ver' && (!md.isZ && Nat.beq off 0))) with
        | false => simp [hb] at h
        | true => simpa [hb] using h
      simp only [Bool.and_eq_true, Bool.not_eq_true'] at hc1
      obtain ⟨h1, h2, h3, h4⟩ := hc1
      have h1 := Nat.eq_of_beq_eq_true h1
      have h2 := Nat.eq_of_beq_eq_true h2
      have h4 := Nat.eq_of_beq_eq_true h4
      subst h1 h2 hxs h4
      have ho' := getD_some ho (by simp)
      cases hx with
      | nst _ _ _ _ _ _ hol hn hone =>
        obtain ⟨rfl, hi, ti, hti, hke⟩ := (hn T0 _ _ (.inr (.inr (.inl ⟨K, md, es0, ho', Nat.le_refl _⟩)))).2 rfl
        obtain ⟨v0, hv0⟩ := hI.eta ho'
        obtain ⟨φ', q1, q2, q3⟩ := map_inv (hI.ob o _ v0 ho' hv0) hi hti hke
        have hq := frz q3 (ob_lt ho') q1
        obtain ⟨a, cap, he⟩ := hq.slice
        exact own rfl he (by rw [← he]; exact hq)
    · cases h
  · rename_i e' o ver i off lo n
    split at h
    · rename_i T0 md ver' xs0 ho
      obtain ⟨hc1, hxs⟩ : (Nat.beq e' e && (Nat.beq ver ver' && !md.isZ)) = true ∧ nstL xs0 i off lo n = xs := by
        cases hb : (Nat.beq e' e && (Nat.beq ver ver' && !md.isZ)) with
        | false => simp [hb] at h
        | true => simpa [hb] using h
      simp only [Bool.and_eq_true, Bool.not_eq_true'] at hc1
      obtain ⟨h1, h2, h3⟩ := hc1
      have h1 := Nat.eq_of_beq_eq_true h1
      have h2 := Nat.eq_of_beq_eq_true h2
      subst h1 h2 hxs
      have ho' := getD_some ho (by simp)
      cases hx with
      | nsl _ _ _ _ _ _ _ _ hol hn hone =>
        obtain ⟨⟨te, hte, a1, m1, cap1, hν, hlo, rfl⟩, hi, hti⟩ := (hn T0 _ _ (.inl ⟨md, xs0, ho', rfl⟩)).2 rfl
        obtain ⟨a, n2, cap, h5, h6⟩ := nested ho' h3 hi hti
        rw [hν] at h5
        cases h5
        obtain ⟨h7, h8, h9, h10⟩ := h6.laid
        subst h7
        have hl : (nstL xs0 i off lo n).length = n := by unfold nstL; simp; omega
        refine ⟨_, _, by rw [hl], by omega, by omega, fun h0 => ?_⟩
        rw [hl] at h0
        refine ⟨(h10 (by omega)).sub hlo cap1 (fun he => by omega) h0 te.cells.length (fun ti h => by rw [hte] at h; cases h; rfl), fun hf => by cases hf⟩
    · cases h
  · cases h

end Go.Proofs.EN
