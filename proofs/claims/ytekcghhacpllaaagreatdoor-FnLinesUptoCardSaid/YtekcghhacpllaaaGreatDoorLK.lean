/- Contracts of functions of this program, by the evaluator EN. No conditions but those that each theorem states. -/
import Derived.Test.YtekcghhacpllaaaGreatDoorLI
import Derived.Test.YtekcghhacpllaaaGreatDoorLE
import Derived.Test.YtekcghhacpllaaaGreatDoorLD
set_option linter.unusedVariables false
set_option linter.unusedSimpArgs false
set_option maxRecDepth 100000
set_option maxHeartbeats 8000000
namespace Go.Proofs.SL
open Go Go.Proofs Go.Proofs.EN Go.Proofs.VT
variable {T : Tabs}
/-! ### How large selections become, spreads being what they spread -/
def kindOK (x : QSel) : Prop := x.kind = 1 ∨ x.kind = 2 ∨ x.kind = 3
inductive Sz (d : QDoc) : List QSel → Nat → Prop
  | nil : Sz d [] 0
  | cons {x : QSel} {r : List QSel} {a b : Nat} (hk : kindOK x) (h1 : Sz d (nxt d x) a) (h2 : Sz d r b) : Sz d (x :: r) (1 + a + b)
theorem Sz.append {d : QDoc} {a b : List QSel} {i j : Nat} (h : Sz d a i) (h2 : Sz d b j) : Sz d (a ++ b) (i + j) := by
  induction h with
  | nil => simpa using h2
  | cons hk h1 h3 ih1 ih3 =>
    have := Sz.cons hk h1 ih3
    rw [Nat.add_assoc]
    rwa [Nat.add_assoc] at this ⊢
theorem Sz.len {d : QDoc} {a : List QSel} {i : Nat} (h : Sz d a i) : a.length ≤ i := by
  induction h with
  | nil => simp
  | cons hk h1 h3 ih1 ih3 => simp; omega
/-- Right selections, however deep. -/
def OKs (ss : List QSel) : Prop := ∃ k, okSels k ss = true
theorem OKs.cons {x : QSel} {r : List QSel} (h : OKs (x :: r)) : selB x = true ∧ OKs x.sels ∧ OKs r := by
  obtain ⟨k, h⟩ := h
  cases k with
  | zero => simp [okSels] at h
  | succ k =>
    simp only [okSels, List.all_cons, Bool.and_eq_true] at h
    exact ⟨h.1.1, ⟨k, h.1.2⟩, ⟨k + 1, h.2⟩⟩
theorem selB_kind {x : QSel} (h : selB x = true) : kindOK x := by
  simp only [selB, Bool.and_eq_true] at h
  have := h.2.2.2.2
  simp only [kindB] at this
  unfold kindOK
  by_cases h1 : x.kind = 1
  · exact .inl h1
  by_cases h2 : x.kind = 2
  · exact .inr (.inl h2)
  by_cases h3 : x.kind = 3
  · exact .inr (.inr h3)
  · simp [h1, h2, h3] at this
theorem OKs.nxt {d : QDoc} (hd : ∀ x ∈ d, OKs x.2.2.2) {x : QSel} (h : OKs x.sels) : OKs (nxt d x) := by
  unfold SL.nxt
  split
  · unfold fragD
    cases e : frag d x.name with
    | none => exact ⟨0, by simp [okSels, noDef]⟩
    | some y => exact hd y (List.mem_of_find?_eq_some e)
  · exact h
theorem lefL_sz {d : QDoc} {rec : Nat → List QSel → Int → Int × Bool} {deep : Nat} (hd : ∀ x ∈ d, OKs x.2.2.2)
    {M : Int} (hr : ∀ k ss l, l < M → OKs ss → 0 ≤ (rec k ss l).1 → (rec k ss l).2 = true → ∃ k', Sz d ss k' ∧ (rec k ss l).1 = l - k') : ∀ {ss : List QSel} {l : Int}, l ≤ M → OKs ss → 0 ≤ (lefL d rec deep ss l).1 → (lefL d rec deep ss l).2 = true → ∃ k, Sz d ss k ∧ (lefL d rec deep ss l).1 = l - k
  | [], l, _, _, h, _ => ⟨0, .nil, by simp [lefL]⟩
  | x :: r, l, hl, ho, h, h2 => by
    obtain ⟨o1, o2, o3⟩ := ho.cons
    rw [lefL] at h h2 ⊢
    split at h
    · exact absurd h (by show ¬ 0 ≤ l; omega)
    split at h
    · exact absurd h (by show ¬ 0 ≤ l - 1; omega)
    rename_i h3 h4
    rw [if_neg h3, if_neg h4] at h2 ⊢
    split at h
    · rename_i h5
      rw [if_pos h5] at h2 ⊢
      have h6 : 0 ≤ (rec (deep - bitF x) (nxt d x) (l - 1)).1 := by
        rcases Int.lt_or_le (rec (deep - bitF x) (nxt d x) (l - 1)).1 0 with h7 | h7
        · rw [lefL_neg h7] at h; exact h
        · exact h7
      obtain ⟨a, ha, ea⟩ := hr _ _ _ (by omega) (OKs.nxt hd o2) h6 h5
      obtain ⟨b, hb, eb⟩ := lefL_sz hd hr (by omega) o3 h h2
      exact ⟨1 + a + b, .cons (selB_kind o1) ha hb, by rw [eb, ea]; omega⟩
    · rename_i h5
      rw [if_neg h5] at h2
      cases h2
theorem lef_sz {d : QDoc} (hd : ∀ x ∈ d, OKs x.2.2.2) : ∀ {N deep : Nat} {ss : List QSel} {l : Int}, l < N → OKs ss → 0 ≤ (lef d N deep ss l).1 → (lef d N deep ss l).2 = true → ∃ k, Sz d ss k ∧ (lef d N deep ss l).1 = l - k
  | 0, deep, ss, l, hl, _, h, _ => by rw [lef] at h; exact absurd h (by show ¬ 0 ≤ l; omega)
  | N + 1, deep, ss, l, hl, ho, h, h2 => by
    rw [lef] at h h2 ⊢
    split at h
    · rename_i h3; rw [if_pos h3] at h2; cases h2
    · rename_i h3
      rw [if_neg h3] at h2 ⊢
      exact lefL_sz (M := N) hd (fun k ss l h5 h6 h7 h8 => lef_sz hd h5 h6 h7 h8) (by omega) ho h h2
/-! ### Fields -/
def flt (d : QDoc) : Nat → List QSel → List QSel
  | 0, _ => []
  | N + 1, ss => ss.flatMap fun x => if x.kind = 1 then [x] else flt d N (nxt d x)
theorem flt_sz {d : QDoc} {ss : List QSel} {k : Nat} (h : Sz d ss k) : ∀ {N : Nat}, k ≤ N → ∃ k', k' ≤ k ∧ Sz d (flt d N ss) k' ∧ ∀ x ∈ flt d N ss, x.kind = 1 := by
  induction h with
  | nil => intro N h; exact ⟨0, by omega, by cases N <;> simp [flt] <;> exact .nil, by cases N <;> simp [flt]⟩
  | @cons x r a b hk h1 h2 ih1 ih2 =>
    intro N hN
    cases N with
    | zero => omega
    | succ N =>
      obtain ⟨a', ha, sa, ka⟩ := ih1 (N := N) (by omega)
      obtain ⟨b', hb, sb, kb⟩ := ih2 (N := N + 1) (by omega)
      rw [flt] at sb kb ⊢
      rw [List.flatMap_cons]
      by_cases hx : x.kind = 1
      · rw [if_pos hx]
        refine ⟨1 + a + b', by omega, ?_, ?_⟩
        · exact .cons hk h1 sb
        · intro y hy
          rcases List.mem_cons.1 hy with rfl | hy
          · exact hx
          · exact kb y hy
      · rw [if_neg hx]
        refine ⟨a' + b', by omega, sa.append sb, ?_⟩
        intro y hy
        rcases List.mem_append.1 hy with hy | hy
        · exact ka y hy
        · exact kb y hy
def qKey (x : QSel) : Str := if x.alias = [] then x.name else x.alias
def sameA (a b : List QArg) : Bool := decide (a.length = b.length) && a.all fun x => decide (x ∈ b)
def grpS (f : List QSel) (s : Str) : List QSel := (f.filter fun x => decide (qKey x = s)).flatMap (·.sels)
theorem grp_sz {d : QDoc} {f : List QSel} {k : Nat} (h : Sz d f k) (hf : ∀ x ∈ f, x.kind = 1) {s : Str} : ∃ k', Sz d (grpS f s) k' ∧ k' + (f.filter fun x => decide (qKey x = s)).length ≤ k := by
  induction h with
  | nil => exact ⟨0, .nil, by simp⟩
  | @cons x r a b hk h1 h2 ih1 ih2 =>
    obtain ⟨b', hb, eb⟩ := ih2 fun y hy => hf y (List.mem_cons_of_mem _ hy)
    have hx : nxt d x = x.sels := by
      have := hf x (List.mem_cons_self ..)
      rw [nxt, if_neg (by omega)]
    by_cases e : qKey x = s
    · refine ⟨a + b', ?_, by simp [e]; omega⟩
      have : grpS (x :: r) s = x.sels ++ grpS r s := by simp [grpS, e]
      rw [this]
      exact (hx ▸ h1).append hb
    · refine ⟨b', ?_, by simp [e]; omega⟩
      have : grpS (x :: r) s = grpS r s := by simp [grpS, e]
      rw [this]
      exact hb
def headI (f : List QSel) (i : Nat) : Bool := allN i fun k => !decide (qKey ((f[k]?).getD default) = qKey ((f[i]?).getD default))
def alikeI (f : List QSel) (i k : Nat) : Bool := !decide (qKey ((f[k]?).getD default) = qKey ((f[i]?).getD default)) || (decide (((f[k]?).getD default).name = ((f[i]?).getD default).name) && sameA ((f[k]?).getD default).args ((f[i]?).getD default).args)
def mer (d : QDoc) : Nat → List QSel → Bool
  | 0, _ => true
  | N + 1, ss => allN (flt d 401 ss).length fun i => allN (flt d 401 ss).length (alikeI (flt d 401 ss) i) && (!headI (flt d 401 ss) i || mer d N (grpS (flt d 401 ss) (qKey (((flt d 401 ss)[i]?).getD default))))
end Go.Proofs.SL
set_option linter.unusedVariables false
set_option linter.unusedSimpArgs false
set_option maxRecDepth 100000
set_option maxHeartbeats 8000000
namespace Go.Proofs.SL
open Go Go.Proofs Go.Proofs.EN Go.Proofs.VT
variable {T : Tabs}
/-! ### Fields, spreads being what they spread -/
def flt1 (d : QDoc) (N : Nat) (x : QSel) : List QSel := if x.kind = 1 then [x] else flt d N (nxt d x)
theorem flatMap_take_succ {α β : Type} {f : α → List β} {ss : List α} {i : Nat} {x : α} (h : ss[i]? = some x) : (ss.take (i + 1)).flatMap f = (ss.take i).flatMap f ++ f x := by
  rw [List.take_add_one, h]; simp
theorem Sz.at {d : QDoc} {ss : List QSel} {k : Nat} (h : Sz d ss k) : ∀ {i : Nat} {x : QSel}, ss[i]? = some x → kindOK x ∧ ∃ a b, Sz d (nxt d x) a ∧ Sz d (ss.take i) b ∧ b + 1 + a ≤ k := by
  induction h with
  | nil => intro i x h; simp at h
  | @cons y r a b hk h1 h2 ih1 ih2 =>
    intro i x h
    cases i with
    | zero =>
      simp only [List.getElem?_cons_zero, Option.some.injEq] at h
      subst h
      exact ⟨hk, a, 0, h1, .nil, by omega⟩
    | succ i =>
      obtain ⟨g1, a', b', g2, g3, g4⟩ := ih2 (by simpa using h)
      exact ⟨g1, a', 1 + a + b', g2, .cons hk h1 g3, by omega⟩
theorem flt_len {d : QDoc} {ss : List QSel} {k N : Nat} (h : Sz d ss k) (hN : k ≤ N) : (flt d N ss).length ≤ k := by
  obtain ⟨k', h1, h2, _⟩ := flt_sz h hN
  have := h2.len; omega
theorem dQSels_append (tA tD tS : TypeId) (a b : List QSel) : dQSels tA tD tS (a ++ b) = dQSels tA tD tS a ++ dQSels tA tD tS b := by simp [dQSels_map]
theorem dQSels_one {tA tD tS : TypeId} {ss : List QSel} {i : Nat} {x : QSel} (h : ss[i]? = some x) : [((dQSels tA tD tS ss)[i]?).getD []] = dQSels tA tD tS [x] := by rw [dQSels_at, h]; simp [dQSels_map]
/-- A list of things that lie in an argument: its own when it is empty. -/
def mdI (i : Nat) : Md := if i = 0 then .deep else .lv 0
theorem mdI_or (i : Nat) : mdI i = .deep ∨ mdI i = .lv 0 := by unfold mdI; split <;> simp
theorem mdI_succ (i : Nat) : mdI (i + 1) = .lv 0 := rfl
theorem w223 {d : QDoc} : ∀ (N : Nat) {ss : List QSel} {k : Nat} {Kr Kp : C → List Ob → R}, Sz d ss k → k ≤ N → N ≤ 1000 → (h : Kr (.d (dSS (flt d (N + 1) ss))) []) → Wp T Tryz.prog tt 223 [cDoc d, .d (dSS ss)] [] Kr Kp := by
  intro N
  induction N with
  | zero =>
    intro ss k Kr Kp hz hk hN h
    have hl := hz.len
    obtain rfl : ss = [] := List.eq_nil_of_length_eq_zero (by omega)
    refine go (k := 223) (own := false) (cap := .deep) Tryz.func223 (by kernel_rfl) ?_
    (conv => whnf); repeat' (first | ((first | refine bdec ?_ ?_ | refine bnot ?_ ?_ | refine bsel_intro ?_ ?_ | skip) <;> intro hc <;> (try simp (disch := omega) only [nm, nq, Nat.reduceAdd, wrapI] at hc) <;> conv => whnf) | (refine .head _ rfl (by kernel_rfl) ?_; conv => whnf) | (refine And.intro ?_ ?_; (focus ((first | omega | decide | (simp (disch := omega) only [nm, nq, Nat.reduceAdd, wrapI] <;> omega) | (simp [strOf, nm, nq, Nat.reduceAdd] <;> omega) | exact Nat.le_of_ble_eq_true rfl | rfl); done)); conv => whnf) | (rw [vv]; conv => whnf) | (refine NilP.mk fun nb hnb => ?_; conv => whnf))
    refine loopOf (fun i : Nat => ⟨[(1, .d (dSS [])), (2, .ref 0 0), (5, .row 1), (6, .d (.int .i64 0))], [.box [.d (.list 192 (dQDefs 222 237 201 d))], .row 201 .deep 0 []]⟩) (fun i => True) (fun i => 0) 0 rfl trivial ?_
    intro i I hi rec
    (conv => whnf); repeat' (first | ((first | refine bdec ?_ ?_ | refine bnot ?_ ?_ | refine bsel_intro ?_ ?_ | skip) <;> intro hc <;> (try simp (disch := omega) only [nm, nq, Nat.reduceAdd, wrapI] at hc) <;> conv => whnf) | (refine .head _ rfl (by kernel_rfl) ?_; conv => whnf) | (refine And.intro ?_ ?_; (focus ((first | omega | decide | (simp (disch := omega) only [nm, nq, Nat.reduceAdd, wrapI] <;> omega) | (simp [strOf, nm, nq, Nat.reduceAdd] <;> omega) | exact Nat.le_of_ble_eq_true rfl | rfl); done)); conv => whnf) | (rw [vv]; conv => whnf) | (refine NilP.mk fun nb hnb => ?_; conv => whnf))
    exact h
  | succ N ih =>
    intro ss k Kr Kp hz hk hN h
    refine go (k := 223) (own := false) (cap := .deep) Tryz.func223 (by kernel_rfl) ?_
    (conv => whnf); repeat' (first | ((first | refine bdec ?_ ?_ | refine bnot ?_ ?_ | refine bsel_intro ?_ ?_ | skip) <;> intro hc <;> (try simp (disch := omega) only [nm, nq, Nat.reduceAdd, wrapI] at hc) <;> conv => whnf) | (refine .head _ rfl (by kernel_rfl) ?_; conv => whnf) | (refine And.intro ?_ ?_; (focus ((first | omega | decide | (simp (disch := omega) only [nm, nq, Nat.reduceAdd, wrapI] <;> omega) | (simp [strOf, nm, nq, Nat.reduceAdd] <;> omega) | exact Nat.le_of_ble_eq_true rfl | rfl); done)); conv => whnf) | (rw [vv]; conv => whnf) | (refine NilP.mk fun nb hnb => ?_; conv => whnf))
    refine loopOf (fun i : Nat => ⟨[(1, .d (dSS ss)), (2, .ref 0 0), (5, .row 1), (6, .d (.int .i64 (i : Int)))], [.box [.d (.list 192 (dQDefs 222 237 201 d))], .row 201 (mdI i) 0 (dQSels 222 237 201 ((ss.take i).flatMap (flt1 d (N + 1))))]⟩) (fun i => i ≤ ss.length) (fun i => ss.length - i) 0 (by simp [dQSels, mdI]) (by omega) ?_
    intro i I hi rec
    obtain ⟨x, hx⟩ : ∃ x, (ss[i]?).getD default = x := ⟨_, rfl⟩
    obtain ⟨hkx, a, b, za, zb, hab⟩ : (i < ss.length → kindOK x) ∧ ∃ a b, (i < ss.length → Sz d (nxt d x) a) ∧ (i < ss.length → Sz d (ss.take i) b) ∧ (i < ss.length → b + 1 + a ≤ k) := by
      rcases Nat.lt_or_ge i ss.length with h | h
      · obtain ⟨g1, a, b, g2, g3, g4⟩ := hz.at (of_getD hx h)
        exact ⟨fun _ => g1, a, b, fun _ => g2, fun _ => g3, fun _ => g4⟩
      · exact ⟨fun h2 => by omega, 0, 0, fun h2 => by omega, fun h2 => by omega, fun h2 => by omega⟩
    have hlb : i < ss.length → ((ss.take i).flatMap (flt1 d (N + 1))).length ≤ b := fun h => flt_len (N := N + 2) (zb h) (by have := hab h; omega)
    have hla : i < ss.length → (flt d (N + 1) (nxt d x)).length ≤ a := fun h => flt_len (za h) (by have := hab h; omega)
    have hk3 : i < ss.length → x.kind = 1 ∨ x.kind = 2 ∨ x.kind = 3 := hkx
    have n1 : x.kind = 2 → nxt d x = (fragD d x.name).2.2.2 := fun h => by rw [nxt, if_pos h]
    have n2 : ¬ x.kind = 2 → nxt d x = x.sels := fun h => by rw [nxt, if_neg h]
    have ef := fun h => flatMap_take_succ (f := flt1 d (N + 1)) (of_getD hx h)
    have e1 := fun h => dQSels_one (tA := 222) (tD := 237) (tS := 201) (of_getD hx h)
    have et : ¬ i < ss.length → (ss.take i).flatMap (flt1 d (N + 1)) = flt d (N + 1 + 1) ss := fun h => by rw [List.take_of_length_le (by omega)]; rfl
    rcases mdI_or i with hm | hm
    all_goals
      simp only [hm]
      (conv => whnf); repeat' (first | ((first | refine bdec ?_ ?_ | refine bnot ?_ ?_ | refine bsel_intro ?_ ?_ | skip) <;> intro hc <;> (try simp (disch := omega) only [nm, nq, Nat.reduceAdd, hx, wrapI] at hc) <;> conv => whnf) | (refine .head _ rfl (by kernel_rfl) ?_; conv => whnf) | (refine aheadAtB 223 (by kernel_rfl) (by kernel_rfl) ?_; conv => whnf) | (refine PAnd.mk ?_ ?_ <;> conv => whnf) | exact PTrue.mk | (refine .head _ rfl (by kernel_rfl) ?_; conv => whnf) | (refine w204 ?_; conv => whnf) | (refine (fun hr => wpArgs (xs' := [cDoc d, .d (dSS (nxt d x))]) (by simp only [nm, nq, Nat.reduceAdd, hx]; first | rw [n1 (by omega)] | rw [n2 (by omega)]) (ih (za (by omega)) (by omega) (by omega) hr)) ?_; conv => whnf) | (apply pcall; (focus (intro _ _ hk; first | exact w204 hk | exact (fun hr => wpArgs (xs' := [cDoc d, .d (dSS (nxt d x))]) (by simp only [nm, nq, Nat.reduceAdd, hx]; first | rw [n1 (by omega)] | rw [n2 (by omega)]) (ih (za (by omega)) (by omega) (by omega) hr)) hk)); conv => whnf) | (refine And.intro ?_ ?_; (focus ((first | omega | decide | (simp (disch := omega) only [nm, nq, Nat.reduceAdd, hx, wrapI] <;> omega) | (simp [strOf, nm, nq, Nat.reduceAdd, hx] <;> omega) | exact Nat.le_of_ble_eq_true rfl | rfl); done)); conv => whnf) | (rw [vv]; conv => whnf) | (refine NilP.mk fun nb hnb => ?_; conv => whnf))
      all_goals first
        | (rw [et (by omega)]; exact h)
        | (refine eqI (rec (i + 1) (by omega) (by omega)) ?_
           rw [ef (by omega), dQSels_append, wrapS (by omega), mdI_succ]
           have ek : flt1 d (N + 1) x = [x] := by rw [flt1, if_pos hc]
           rw [ek]
           simp only [nm, nq, Nat.reduceAdd, hx]
           simp [dQSels_map, dQSel_eq]; done)
        | (refine eqI (rec (i + 1) (by omega) (by omega)) ?_
           rw [ef (by omega), dQSels_append, wrapS (by omega), mdI_succ]
           have ek : flt1 d (N + 1) x = flt d (N + 1) (nxt d x) := by rw [flt1, if_neg (by omega)]
           rw [ek]; done)
end Go.Proofs.SL
set_option linter.unusedVariables false
set_option linter.unusedSimpArgs false
set_option maxRecDepth 100000
set_option maxHeartbeats 8000000
namespace Go.Proofs.SL
open Go Go.Proofs Go.Proofs.EN Go.Proofs.VT
variable {T : Tabs}
def merI (d : QDoc) (N : Nat) (f : List QSel) (i : Nat) : Bool := allN f.length (alikeI f i) && (!headI f i || mer d N (grpS f (qKey ((f[i]?).getD default))))
theorem mer_succ (d : QDoc) (N : Nat) (ss : List QSel) : mer d (N + 1) ss = allN (flt d 401 ss).length (merI d N (flt d 401 ss)) := rfl
def firstJ (f : List QSel) (i j : Nat) : Bool := allN j fun k => !decide (qKey ((f[k]?).getD default) = qKey ((f[i]?).getD default)) || decide (i ≤ k)
def gcnt (f : List QSel) (s : Str) (j : Nat) : Nat := ((f.take j).filter fun x => decide (qKey x = s)).length
theorem allN_succ (n : Nat) (f : Nat → Bool) : allN (n + 1) f = (allN n f && f n) := by simp [allN, List.range_succ]
theorem grpS_len {d : QDoc} {f : List QSel} {k : Nat} (h : Sz d f k) (hf : ∀ x ∈ f, x.kind = 1) (s : Str) : (grpS f s).length ≤ k := by
  obtain ⟨k2, z2, hk2⟩ := grp_sz h hf (s := s)
  have := z2.len; omega
theorem grp_no {f : List QSel} {i j : Nat} {s : Str} {y : QSel} (hy : f[j]? = some y) (hk : qKey y ≠ s) (hs : qKey ((f[i]?).getD default) = s) : gcnt f s (j + 1) = gcnt f s j ∧ grpS (f.take (j + 1)) s = grpS (f.take j) s ∧ firstJ f i (j + 1) = firstJ f i j ∧ alikeI f i j = true := by
  refine ⟨?_, ?_, ?_, ?_⟩
  · simp [gcnt, List.take_add_one, hy, hk]
  · simp [grpS, List.take_add_one, hy, hk]
  · rw [firstJ, allN_succ, ← firstJ]; simp [hs, hy, hk]
  · simp [alikeI, hs, hy, hk]
theorem grp_yes {f : List QSel} {i j : Nat} {s : Str} {y : QSel} (hy : f[j]? = some y) (hk : qKey y = s) (hs : qKey ((f[i]?).getD default) = s) : gcnt f s (j + 1) = gcnt f s j + 1 ∧ grpS (f.take (j + 1)) s = grpS (f.take j) s ++ y.sels ∧ firstJ f i (j + 1) = (firstJ f i j && decide (i ≤ j)) ∧ alikeI f i j = (decide (y.name = ((f[i]?).getD default).name) && sameA y.args ((f[i]?).getD default).args) := by
  refine ⟨?_, ?_, ?_, ?_⟩
  · simp [gcnt, List.take_add_one, hy, hk]
  · simp [grpS, List.take_add_one, hy, hk]
  · rw [firstJ, allN_succ, ← firstJ]; simp [hs, hy, hk]
  · simp [alikeI, hs, hy, hk]
theorem firstJ_head {f : List QSel} {i : Nat} (hi : i < f.length) : firstJ f i f.length = headI f i := by
  rw [Bool.eq_iff_iff, firstJ, headI, allN, allN, List.all_eq_true, List.all_eq_true]
  constructor
  · intro h k hk
    have := h k (by simp at hk ⊢; omega)
    simp at hk
    simpa [show ¬ i ≤ k by omega] using this
  · intro h k hk
    by_cases e : i ≤ k
    · simp [e]
    · have := h k (by simp; omega)
      rw [this]; rfl
theorem w207 {d : QDoc} : ∀ (N : Nat) {ss : List QSel} {k : Nat} {Kr Kp : C → List Ob → R}, Sz d ss k → k < N → k ≤ 400 → (h : Kr (.d (.bool (mer d N ss))) []) → Wp T Tryz.prog tt 207 [cDoc d, .d (dSS ss)] [] Kr Kp := by
  intro N
  induction N with
  | zero =>
    intro ss k Kr Kp hz hk hN h
    omega
  | succ N ih =>
    intro ss k Kr Kp hz hk hN h
    obtain ⟨k', hk1, hz2, hf1⟩ := flt_sz hz (N := 401) (by omega)
    have hfl := hz2.len
    obtain ⟨f, hf⟩ : ∃ f, flt d 401 ss = f := ⟨_, rfl⟩
    rw [mer_succ] at h
    rw [hf] at hz2 hf1 hfl h
    refine go (k := 207) (own := true) (cap := .deep) Tryz.func207 (by kernel_rfl) ?_
    (conv => whnf); repeat' (first | ((first | refine bdec ?_ ?_ | refine bnot ?_ ?_ | refine bsel_intro ?_ ?_ | skip) <;> intro hc <;> (try simp (disch := omega) only [nm, nq, Nat.reduceAdd, wrapI] at hc) <;> conv => whnf) | (refine .head _ rfl (by kernel_rfl) ?_; conv => whnf) | (refine (fun hq => w223 400 hz hN (by omega) (krC hq (by rw [hf]))) ?_; conv => whnf) | (apply pcall; (focus (intro _ _ hk; first | exact (fun hq => w223 400 hz hN (by omega) (krC hq (by rw [hf]))) hk)); conv => whnf) | (refine And.intro ?_ ?_; (focus ((first | omega | decide | (simp (disch := omega) only [nm, nq, Nat.reduceAdd, wrapI] <;> omega) | (simp [strOf, nm, nq, Nat.reduceAdd] <;> omega) | exact Nat.le_of_ble_eq_true rfl | rfl); done)); conv => whnf) | (rw [vv]; conv => whnf) | (refine NilP.mk fun nb hnb => ?_; conv => whnf))
    refine loopOf (fun i : Nat => ⟨[(2, .ref 0 0), (5, .d (dSS f)), (6, .d (.int .i64 (i : Int)))], [.box [.d (.list 192 (dQDefs 222 237 201 d))]]⟩) (fun i => i ≤ f.length ∧ ∀ j, j < i → merI d N f j = true) (fun i => f.length - i) 0 rfl ⟨by omega, fun j hj => by omega⟩ ?_
    intro i I hi rec
    obtain ⟨hi1, hi2⟩ := hi
    obtain ⟨x, hx⟩ : ∃ x, (f[i]?).getD default = x := ⟨_, rfl⟩
    obtain ⟨s, hs⟩ : ∃ s, qKey x = s := ⟨_, rfl⟩
    have hmr : ∀ {Kr Kp : C → List Ob → R}, i < f.length → Kr (.d (.bool (mer d N (grpS f s)))) [] → Wp T Tryz.prog tt 207 [cDoc d, .d (dSS (grpS f s))] [] Kr Kp := by
      intro Kr Kp hlt hk0
      obtain ⟨k2, z2, hk2⟩ := grp_sz hz2 hf1 (s := s)
      have h1 : 0 < (f.filter fun x => decide (qKey x = s)).length := List.length_pos_of_mem (a := x) (by simp [hs]; exact List.mem_of_getElem? (of_getD hx hlt))
      exact ih z2 (by omega) (by omega) hk0
    (conv => whnf); repeat' (first | ((first | refine bdec ?_ ?_ | refine bnot ?_ ?_ | refine bsel_intro ?_ ?_ | skip) <;> intro hc <;> (try simp (disch := omega) only [nm, nq, Nat.reduceAdd, hx, wrapI] at hc) <;> conv => whnf) | (refine .head _ rfl (by kernel_rfl) ?_; conv => whnf) | (refine And.intro ?_ ?_; (focus ((first | omega | decide | (simp (disch := omega) only [nm, nq, Nat.reduceAdd, hx, wrapI] <;> omega) | (simp [strOf, nm, nq, Nat.reduceAdd, hx] <;> omega) | exact Nat.le_of_ble_eq_true rfl | rfl); done)); conv => whnf) | (rw [vv]; conv => whnf) | (refine NilP.mk fun nb hnb => ?_; conv => whnf))
    rotate_left
    · refine krB h ?_
      exact allN_yes fun j hj => hi2 j (by omega)
    · refine loopOf (fun j : Nat => ⟨[(2, .ref 0 0), (5, .d (dSS f)), (6, .d (.int .i64 (i : Int))), (7, .row 1), (8, .d (.bool (firstJ f i j))), (9, .d (.int .i64 (j : Int)))], [.box [.d (.list 192 (dQDefs 222 237 201 d))], .row 201 (mdI (gcnt f s j)) 0 (dQSels 222 237 201 (grpS (f.take j) s))]⟩) (fun j => j ≤ f.length ∧ ∀ k, k < j → alikeI f i k = true) (fun j => f.length - j) 0 (by simp [firstJ, allN, gcnt, mdI, grpS, dQSels]) ⟨by omega, fun j hj => by omega⟩ ?_
      intro j J hj rec2
      obtain ⟨hj1, hj2⟩ := hj
      obtain ⟨y, hy⟩ : ∃ y, (f[j]?).getD default = y := ⟨_, rfl⟩
      have hsx : qKey ((f[i]?).getD default) = s := by rw [hx, hs]
      have hg1 : (grpS (f.take j) s).length ≤ 400 := by
        rcases Nat.lt_or_ge j f.length with h | h
        · obtain ⟨_, a, b, g2, g3, g4⟩ := hz2.at (of_getD hy h)
          have := grpS_len g3 (fun x hx => hf1 x (List.mem_of_mem_take hx)) s
          omega
        · rw [List.take_of_length_le h]
          have := grpS_len hz2 hf1 s
          omega
      have hg2 : j < f.length → y.sels.length ≤ 400 := fun h => by
        obtain ⟨_, a, b, g2, g3, g4⟩ := hz2.at (of_getD hy h)
        have h1 := hf1 y (List.mem_of_getElem? (of_getD hy h))
        rw [nxt, if_neg (by omega)] at g2
        have := g2.len; omega
      have hno := fun hlt hk => grp_no (i := i) (s := s) (of_getD hy hlt) hk hsx
      have hyes := fun hlt hk => grp_yes (i := i) (s := s) (of_getD hy hlt) hk hsx
      simp only [hx] at hyes
      have hqx : (if x.alias = [] then x.name else x.alias) = s := hs
      rcases mdI_or (gcnt f s j) with hm | hm
      all_goals
        simp only [hm]
        (conv => whnf); repeat' (first | ((first | refine bdec ?_ ?_ | refine bnot ?_ ?_ | refine bsel_intro ?_ ?_ | skip) <;> intro hc <;> (try simp (disch := omega) only [nm, nq, Nat.reduceAdd, hx, hy, wrapI] at hc) <;> conv => whnf) | (refine .head _ rfl (by kernel_rfl) ?_; conv => whnf) | (apply pcall; (focus (intro _ _ hk; refine wpArgs (xs' := [cSel y]) ?_ (w224 hk); simp only [nm, nq, Nat.reduceAdd, hy]; done)); conv => whnf) | (refine (fun h1 hq => wpArgs (xs' := [cSel x]) h1 (w224 hq)) ?_ ?_ <;> conv => whnf) | (refine (fun h1 hq => wpArgs (xs' := [cDoc d, .d (dSS (grpS f s))]) h1 (hmr (by omega) hq)) ?_ ?_ <;> conv => whnf) | (refine (fun hq => wpArgs (xs' := [.d (.list 222 (dQArgs y.args)), .d (.list 222 (dQArgs x.args))]) (by simp only [nm, nq, Nat.reduceAdd, hx, hy]) (w225 hq)) ?_; conv => whnf) | (apply pcall; (focus (intro _ _ hk; first | exact (fun h1 hq => wpArgs (xs' := [cSel x]) h1 (w224 hq)) ?_ ?_ hk | exact (fun h1 hq => wpArgs (xs' := [cDoc d, .d (dSS (grpS f s))]) h1 (hmr (by omega) hq)) ?_ ?_ hk | exact (fun hq => wpArgs (xs' := [.d (.list 222 (dQArgs y.args)), .d (.list 222 (dQArgs x.args))]) (by simp only [nm, nq, Nat.reduceAdd, hx, hy]) (w225 hq)) hk)); conv => whnf) | (refine And.intro ?_ ?_; (focus ((first | omega | decide | (simp (disch := omega) only [nm, nq, Nat.reduceAdd, hx, hy, wrapI] <;> omega) | (simp [strOf, nm, nq, Nat.reduceAdd, hx, hy] <;> omega) | exact Nat.le_of_ble_eq_true rfl | rfl); done)); conv => whnf) | (rw [vv]; conv => whnf) | (refine NilP.mk fun nb hnb => ?_; conv => whnf))
        all_goals first
          | (simp only [nm, nq, Nat.reduceAdd, hx]; done)
          | (rw [List.take_of_length_le (by omega)]; done)
          | (obtain ⟨e1, e2, e3, e4⟩ := hno (by omega) (fun e => hc (by rw [hqx]; exact e))
             refine eqI (rec2 (j + 1) ⟨by omega, lt_succ_split hj2 e4⟩ (by omega)) ?_
             rw [e1, e2, e3, hm, wrapS (by omega)]; done)
          | (have hky : (if y.alias = [] then y.name else y.alias) = if x.alias = [] then x.name else x.alias := ‹_›
             obtain ⟨e1, e2, e3, e4⟩ := hyes (by omega) (by rw [hqx] at hky; exact hky)
             exact krB h (allN_no i (by omega) (by rw [merI, allN_no j (by omega) (by rw [e4, Bool.and_eq_false_iff]; first | exact .inl (decide_eq_false hc) | exact .inr ((Bool.not_eq_true' _).mp hc))]; rfl)))
          | (have hky : (if y.alias = [] then y.name else y.alias) = if x.alias = [] then x.name else x.alias := ‹_›
             have hnm : y.name = x.name := ‹_›
             obtain ⟨e1, e2, e3, e4⟩ := hyes (by omega) (by rw [hqx] at hky; exact hky)
             refine eqI (rec2 (j + 1) ⟨by omega, lt_succ_split hj2 (by rw [e4, Bool.and_eq_true]; exact ⟨decide_eq_true hnm, by simpa [sameA] using hc⟩)⟩ (by omega)) ?_
             rw [e1, e2, e3, mdI_succ, dQSels_append, wrapS (by omega)]
             simp only [nm, nq, Nat.reduceAdd, hy]
             first
               | (rw [show firstJ f i j = true from ‹_›]; simp; done)
               | (rw [show firstJ f i j = false from ‹_›]; simp; done))
          | (have ha : allN f.length (alikeI f i) = true := allN_yes fun k hk => hj2 k (by omega)
             have hh : firstJ f i j = headI f i := by rw [show j = f.length by omega]; exact firstJ_head (by omega)
             first
               | (refine krB h (allN_no i (by omega) ?_)
                  rw [merI, ha, ← hh, show firstJ f i j = true from ‹_›, hsx, (Bool.not_eq_true' _).mp hc]; rfl)
               | (refine eqI (rec (i + 1) ⟨by omega, lt_succ_split hi2 (by rw [merI, ha, ← hh, show firstJ f i j = true from ‹_›, hsx, (Bool.not_eq_false' _).mp hc]; rfl)⟩ (by omega)) ?_
                  rw [wrapS (by omega)])
               | (refine eqI (rec (i + 1) ⟨by omega, lt_succ_split hi2 (by rw [merI, ha, ← hh, show firstJ f i j = false from ‹_›]; rfl)⟩ (by omega)) ?_
                  rw [wrapS (by omega)]))
end Go.Proofs.SL
set_option linter.unusedVariables false
set_option linter.unusedSimpArgs false
set_option maxRecDepth 100000
set_option maxHeartbeats 8000000
namespace Go.Proofs.SL
open Go Go.Proofs Go.Proofs.EN Go.Proofs.VT
variable {T : Tabs}
/-! ### Cycles -/
/-- What spreads from some names come to. -/
inductive Rch (d : QDoc) (L : List Str) : Str → Prop
  | base {s : Str} (h : s ∈ L) : Rch d L s
  | step {a b : Str} (h : Rch d L a) (h2 : b ∈ spr (fragD d a).2.2.2) : Rch d L b
def cycAt (d : QDoc) (x : QDef) : Prop := x.1 = 3 ∧ Rch d (spr x.2.2.2) x.2.1
open Classical in
noncomputable def cycB (d : QDoc) : Bool := d.any fun x => decide (cycAt d x)
theorem cycB_yes {d : QDoc} {i : Nat} {x : QDef} (hx : d[i]? = some x) (h : cycAt d x) : cycB d = true := by
  rw [cycB, List.any_eq_true]
  exact ⟨x, List.mem_of_getElem? hx, by simpa using h⟩
theorem cycB_no {d : QDoc} (h : ∀ j, j < d.length → ¬ cycAt d ((d[j]?).getD default)) : cycB d = false := by
  rw [cycB, List.any_eq_false]
  intro x hx
  obtain ⟨j, hj, rfl⟩ := List.getElem_of_mem hx
  have := h j hj
  simpa [hj] using this
theorem Rch.sub {d : QDoc} {L S : List Str} (h1 : ∀ s ∈ L, s ∈ S) (h2 : ∀ a ∈ S, ∀ b ∈ spr (fragD d a).2.2.2, b ∈ S) {s : Str} (h : Rch d L s) : s ∈ S := by
  induction h with
  | base h => exact h1 _ h
  | step h h3 ih => exact h2 _ ih _ h3
/-- All names that are spread. -/
def sprD (d : QDoc) : List Str := (d.map fun x => spr x.2.2.2).flatten
theorem sprD_len (d : QDoc) : (sprD d).length ≤ cntDoc d := by
  induction d with
  | nil => simp [sprD]
  | cons x d ih =>
    have := spr_len' x.2.2.2
    simp only [sprD, cntDoc, List.map_cons, List.flatten_cons, List.length_append, List.sum_cons] at *
    omega
theorem sprD_mem {d : QDoc} {x : QDef} (h : x ∈ d) {s : Str} (hs : s ∈ spr x.2.2.2) : s ∈ sprD d := by
  rw [sprD, List.mem_flatten]
  exact ⟨_, List.mem_map.2 ⟨x, h, rfl⟩, hs⟩
theorem fragD_mem {d : QDoc} {n : Str} {s : Str} (h : s ∈ spr (fragD d n).2.2.2) : s ∈ sprD d := by
  rw [fragD] at h
  cases e : frag d n with
  | none => rw [e] at h; simp [noDef, spr_nil] at h
  | some x => rw [e] at h; exact sprD_mem (List.mem_of_find?_eq_some e) h
theorem nodup_len {A U : List Str} (h : A.Nodup) (h2 : ∀ a ∈ A, a ∈ U) : A.length ≤ U.length := by
  induction A generalizing U with
  | nil => simp
  | cons a A ih =>
    rw [List.nodup_cons] at h
    have ha := h2 a List.mem_cons_self
    have := ih (U := U.erase a) h.2 fun b hb => (List.mem_erase_of_ne (fun e => h.1 (by rw [← e]; exact hb))).2 (h2 b (List.mem_cons_of_mem _ hb))
    rw [List.length_erase_of_mem ha] at this
    have : 0 < U.length := List.length_pos_of_mem ha
    simp only [List.length_cons]
    omega
theorem qCnt_doc {d : QDoc} {x : QDef} (h : x ∈ d) : qCnt x.2.2.2 ≤ cntDoc d := by
  obtain ⟨a, b, rfl⟩ := List.append_of_mem h
  simp [cntDoc]; omega
theorem qCnt_frag {d : QDoc} {n : Str} : qCnt (fragD d n).2.2.2 ≤ cntDoc d := by
  rw [fragD]
  cases e : frag d n with
  | none => simp [noDef, qCnt_nil]
  | some x => exact qCnt_doc (List.mem_of_find?_eq_some e)
theorem w179 {d : QDoc} {Kr Kp : C → List Ob → R} (hd : cntDoc d ≤ 1000000) (h : Kr (.d (.bool (cycB d))) []) : Wp T Tryz.prog tt 179 [cDoc d] [] Kr Kp := by
  refine go (k := 179) (own := true) (cap := .deep) Tryz.func179 (by kernel_rfl) ?_
  (conv => whnf); repeat' (first | ((first | refine bdec ?_ ?_ | refine bnot ?_ ?_ | refine bsel_intro ?_ ?_ | skip) <;> intro hc <;> (try simp (disch := omega) only [nm, nq, Nat.reduceAdd, wrapI] at hc) <;> conv => whnf) | (refine .head _ rfl (by kernel_rfl) ?_; conv => whnf) | (refine And.intro ?_ ?_; (focus ((first | omega | decide | (simp (disch := omega) only [nm, nq, Nat.reduceAdd, wrapI] <;> omega) | (simp [strOf, nm, nq, Nat.reduceAdd] <;> omega) | exact Nat.le_of_ble_eq_true rfl | rfl); done)); conv => whnf) | (rw [vv]; conv => whnf) | (refine NilP.mk fun nb hnb => ?_; conv => whnf))
  refine loopOf (fun i : Nat => ⟨[(1, .ref 0 0), (3, .d (.int .i64 (i : Int)))], [.box [.d (.list 192 (dQDefs 222 237 201 d))]]⟩) (fun i => i ≤ d.length ∧ ∀ j, j < i → ¬ cycAt d ((d[j]?).getD default)) (fun i => d.length - i) 0 rfl ⟨by omega, fun j hj => by omega⟩ ?_
  intro i I hi rec
  obtain ⟨hi1, hi2⟩ := hi
  obtain ⟨x, hx⟩ : ∃ x, (d[i]?).getD default = x := ⟨_, rfl⟩
  have hq : i < d.length → qCnt x.2.2.2 ≤ cntDoc d := fun h => qCnt_doc (List.mem_of_getElem? (of_getD hx h))
  (conv => whnf); repeat' (first | ((first | refine bdec ?_ ?_ | refine bnot ?_ ?_ | refine bsel_intro ?_ ?_ | skip) <;> intro hc <;> (try simp (disch := omega) only [nm, nq, Nat.reduceAdd, hx, wrapI] at hc) <;> conv => whnf) | (refine .head _ rfl (by kernel_rfl) ?_; conv => whnf) | (refine wpArgs (xs' := [.d (dSS x.2.2.2)]) (by simp only [nm, nq, Nat.reduceAdd, hx]) (w203 _ (Nat.lt_succ_self _) (by omega) fun ver => ?_) <;> conv => whnf) | (apply pcall; (focus (intro _ _ hk; first | exact wpArgs (xs' := [.d (dSS x.2.2.2)]) (by simp only [nm, nq, Nat.reduceAdd, hx]) (w203 _ (Nat.lt_succ_self _) (by omega) fun ver => ?_) hk)); conv => whnf) | (refine And.intro ?_ ?_; (focus ((first | omega | decide | (simp (disch := omega) only [nm, nq, Nat.reduceAdd, hx, wrapI] <;> omega) | (simp [strOf, nm, nq, Nat.reduceAdd, hx] <;> omega) | exact Nat.le_of_ble_eq_true rfl | rfl); done)); conv => whnf) | (rw [vv]; conv => whnf) | (refine NilP.mk fun nb hnb => ?_; conv => whnf))
  · refine eqI (rec (i + 1) ⟨by omega, lt_succ_split hi2 (by rw [hx]; exact fun e => hc e.1)⟩ (by omega)) ?_
    rw [wrapS (by omega)]
  rotate_right
  · exact krB h (cycB_no fun j hj => hi2 j (by omega))
  have hxi := of_getD hx (by omega)
  have hxm := List.mem_of_getElem? hxi
  have hl0 := spr_len' x.2.2.2
  have hqx := qCnt_doc hxm
  have hU := sprD_len d
  refine loopOf (fun s : Nat × List Str × Nat => ⟨[(1, .ref 0 0), (3, .d (.int .i64 (i : Int))), (4, .row 1), (5, .d (.int .i64 (s.1 : Int)))], [.box [.d (.list 192 (dQDefs 222 237 201 d))], .row 9 .deep s.2.2 (dStr (spr x.2.2.2 ++ s.2.1))]⟩)
    (fun s => s.1 ≤ (spr x.2.2.2 ++ s.2.1).length ∧ s.2.1.Nodup ∧ (∀ a ∈ s.2.1, a ∈ sprD d) ∧ (∀ a ∈ s.2.1, Rch d (spr x.2.2.2) a) ∧ ∀ j, j < s.1 → (spr x.2.2.2 ++ s.2.1)[j]?.getD [] ≠ x.2.1 ∧ ∀ b ∈ spr (fragD d ((spr x.2.2.2 ++ s.2.1)[j]?.getD [])).2.2.2, b ∈ spr x.2.2.2 ++ s.2.1)
    (fun s => 2 * cntDoc d + 1 - s.1) (0, [], ver) (by simp) ⟨by simp, by simp, by simp, by simp, fun j hj => by simp at hj⟩ ?_
  intro s J hs rec2
  obtain ⟨k, A, vr⟩ := s
  obtain ⟨hk1, hA, hAU, hAR, hcl⟩ := hs
  simp only at hk1 hA hAU hAR hcl ⊢
  have hAl := nodup_len hA hAU
  obtain ⟨y, hy⟩ : ∃ y, (spr x.2.2.2 ++ A)[k]?.getD [] = y := ⟨_, rfl⟩
  have hSl : (spr x.2.2.2 ++ A).length ≤ 2 * cntDoc d := by rw [List.length_append]; omega
  have hq2 := qCnt_frag (d := d) (n := y)
  (conv => whnf); repeat' (first | ((first | refine bdec ?_ ?_ | refine bnot ?_ ?_ | refine bsel_intro ?_ ?_ | skip) <;> intro hc <;> (try simp (disch := omega) only [nm, nq, Nat.reduceAdd, hx, hy, wrapI] at hc) <;> conv => whnf) | (refine aheadAtB 179 (by kernel_rfl) (by kernel_rfl) ?_; conv => whnf) | (refine PAnd.mk ?_ ?_ <;> conv => whnf) | exact PTrue.mk | (refine .head _ rfl (by kernel_rfl) ?_; conv => whnf) | (refine wpArgs (xs' := [cDoc d, .d (.str y)]) (by simp only [nm, nq, Nat.reduceAdd, hy]) (w204 ?_) <;> conv => whnf) | (refine wpArgs (xs' := [.d (dSS (fragD d y).2.2.2)]) (by simp only [nm, nq, Nat.reduceAdd, hx]) (w203 _ (Nat.lt_succ_self _) (by omega) fun ver2 => ?_) <;> conv => whnf) | (apply pcall; (focus (intro _ _ hk; first | exact wpArgs (xs' := [cDoc d, .d (.str y)]) (by simp only [nm, nq, Nat.reduceAdd, hy]) (w204 ?_) hk | exact wpArgs (xs' := [.d (dSS (fragD d y).2.2.2)]) (by simp only [nm, nq, Nat.reduceAdd, hx]) (w203 _ (Nat.lt_succ_self _) (by omega) fun ver2 => ?_) hk)); conv => whnf) | (refine And.intro ?_ ?_; (focus ((first | omega | decide | (simp (disch := omega) only [nm, nq, Nat.reduceAdd, hx, hy, wrapI] <;> omega) | (simp [strOf, nm, nq, Nat.reduceAdd, hx, hy] <;> omega) | exact Nat.le_of_ble_eq_true rfl | rfl); done)); conv => whnf) | (rw [vv]; conv => whnf) | (refine NilP.mk fun nb hnb => ?_; conv => whnf))
  · have : cycAt d x := by
      refine ⟨by assumption, ?_⟩
      rw [← hc]
      have hy' : y ∈ spr x.2.2.2 ++ A := by
        have hk2 : k < (spr x.2.2.2 ++ A).length := by rw [List.length_append]; omega
        rw [← hy, List.getElem?_eq_getElem hk2]
        exact List.getElem_mem hk2
      rcases List.mem_append.1 hy' with h1 | h1
      · exact .base h1
      · exact hAR y h1
    exact krB h (cycB_yes hxi this)
  rotate_right
  · have hk2 : k = (spr x.2.2.2 ++ A).length := by rw [List.length_append] at *; omega
    refine eqI (rec (i + 1) ⟨by omega, lt_succ_split hi2 ?_⟩ (by omega)) ?_
    · rw [hx]
      rintro ⟨_, hr⟩
      have := Rch.sub (S := spr x.2.2.2 ++ A) (fun s hs => List.mem_append_left _ hs) (fun a ha b hb => by
        obtain ⟨j, hj, rfl⟩ := List.getElem_of_mem ha
        have := (hcl j (by omega)).2 b (by rw [List.getElem?_eq_getElem hj]; exact hb)
        exact this) hr
      obtain ⟨j, hj, e⟩ := List.getElem_of_mem this
      exact (hcl j (by omega)).1 (by rw [List.getElem?_eq_getElem hj]; exact e)
    · rw [wrapS (by omega)]
  all_goals
    have hk2 : k < (spr x.2.2.2 ++ A).length := by rw [List.length_append]; omega
    have hyi : (spr x.2.2.2 ++ A)[k]? = some y := by rw [← hy, List.getElem?_eq_getElem hk2]; rfl
    have hyS := List.mem_of_getElem? hyi
    have hyR : Rch d (spr x.2.2.2) y := by
      rcases List.mem_append.1 hyS with h1 | h1
      · exact .base h1
      · exact hAR y h1
    have hyN : y ≠ x.2.1 := by assumption
    have hMl := spr_len' (fragD d y).2.2.2
    refine loopOf (fun s : Nat × List Str × Nat => ⟨[(1, .ref 0 0), (3, .d (.int .i64 (i : Int))), (4, .row 1), (5, .d (.int .i64 (k : Int))), (8, .row 2), (9, .d (.int .i64 (s.1 : Int)))], [.box [.d (.list 192 (dQDefs 222 237 201 d))], .row 9 .deep s.2.2 (dStr (spr x.2.2.2 ++ s.2.1)), .row 9 .deep ver2 (dStr (spr (fragD d y).2.2.2))]⟩)
      (fun s => s.1 ≤ (spr (fragD d y).2.2.2).length ∧ s.2.1.Nodup ∧ (∀ a ∈ s.2.1, a ∈ sprD d) ∧ (∀ a ∈ s.2.1, Rch d (spr x.2.2.2) a) ∧ (∃ B, s.2.1 = A ++ B) ∧ ∀ j, j < s.1 → (spr (fragD d y).2.2.2)[j]?.getD [] ∈ spr x.2.2.2 ++ s.2.1)
      (fun s => (spr (fragD d y).2.2.2).length - s.1) (0, A, vr) rfl ⟨by simp, hA, hAU, hAR, ⟨[], by simp⟩, fun j hj => by simp at hj⟩ ?_
    intro s L hs rec3
    obtain ⟨n, A2, vr2⟩ := s
    obtain ⟨hn1, hA2, hAU2, hAR2, hB, hM⟩ := hs
    simp only at hn1 hA2 hAU2 hAR2 hB hM ⊢
    have hAl2 := nodup_len hA2 hAU2
    obtain ⟨z, hz⟩ : ∃ z, (spr (fragD d y).2.2.2)[n]?.getD [] = z := ⟨_, rfl⟩
    have hSl2 : (spr x.2.2.2 ++ A2).length ≤ 2 * cntDoc d := by rw [List.length_append]; omega
    have hzi : n < (spr (fragD d y).2.2.2).length → (spr (fragD d y).2.2.2)[n]? = some z := fun h => by rw [← hz, List.getElem?_eq_getElem h]; rfl
    (conv => whnf); repeat' (first | ((first | refine bdec ?_ ?_ | refine bnot ?_ ?_ | refine bsel_intro ?_ ?_ | skip) <;> intro hc <;> (try simp (disch := omega) only [nm, nq, Nat.reduceAdd, hz, wrapI] at hc) <;> conv => whnf) | (refine .head _ rfl (by kernel_rfl) ?_; conv => whnf) | (refine w205 ?_; conv => whnf) | (apply pcall; (focus (intro _ _ hk; first | exact w205 hk)); conv => whnf) | (refine And.intro ?_ ?_; (focus ((first | omega | decide | (simp (disch := omega) only [nm, nq, Nat.reduceAdd, hz, wrapI] <;> omega) | (simp [strOf, nm, nq, Nat.reduceAdd, hz] <;> omega) | exact Nat.le_of_ble_eq_true rfl | rfl); done)); conv => whnf) | (rw [vv]; conv => whnf) | (refine NilP.mk fun nb hnb => ?_; conv => whnf))
    · have hzm := List.mem_of_getElem? (hzi (by omega))
      have hz2 : z ∉ spr x.2.2.2 ∧ z ∉ A2 := by rw [List.mem_append, not_or] at hc; exact hc
      refine eqI (rec3 (n + 1, A2 ++ [z], 0) ⟨by show n + 1 ≤ _; omega, ?_, ?_, ?_, ?_, ?_⟩ (by show _ - (n + 1) < _ - n; omega)) ?_
      · rw [List.nodup_append]
        refine ⟨hA2, by simp, fun a ha b hb => ?_⟩
        have : b = z := by simpa using hb
        rw [this]
        exact fun e => hz2.2 (by rw [← e]; exact ha)
      · intro a ha
        rcases List.mem_append.1 ha with h1 | h1
        · exact hAU2 a h1
        · have : a = z := by simpa using h1
          rw [this]; exact fragD_mem hzm
      · intro a ha
        rcases List.mem_append.1 ha with h1 | h1
        · exact hAR2 a h1
        · have : a = z := by simpa using h1
          rw [this]; exact .step hyR hzm
      · obtain ⟨B, rfl⟩ := hB
        exact ⟨B ++ [z], by simp⟩
      · refine lt_succ_split (fun j hj => ?_) ?_
        · rw [← List.append_assoc]; exact List.mem_append_left _ (hM j hj)
        · rw [hz]; simp
      · show (St.mk _ _) = _
        simp only [nm, nq, Nat.reduceAdd, hz]
        rw [wrapS (by omega)]
        simp [dStr]
    · refine eqI (rec3 (n + 1, A2, vr2) ⟨by show n + 1 ≤ _; omega, hA2, hAU2, hAR2, hB, lt_succ_split hM (by rw [hz]; exact hc)⟩ (by show _ - (n + 1) < _ - n; omega)) ?_
      rw [wrapS (by omega)]
    · obtain ⟨B, rfl⟩ := hB
      refine eqI (rec2 (k + 1, A ++ B, vr2) ⟨by show k + 1 ≤ _; rw [← List.append_assoc, List.length_append]; omega, hA2, hAU2, hAR2, ?_⟩ (by show _ - (k + 1) < _ - k; omega)) ?_
      · refine lt_succ_split (fun j hj => ?_) ?_
        · have hj2 : j < (spr x.2.2.2 ++ A).length := by omega
          have e : (spr x.2.2.2 ++ (A ++ B))[j]?.getD [] = (spr x.2.2.2 ++ A)[j]?.getD [] := by
            rw [← List.append_assoc, List.getElem?_append_left hj2]
          show (spr x.2.2.2 ++ (A ++ B))[j]?.getD [] ≠ _ ∧ _
          rw [e]
          refine ⟨(hcl j hj).1, fun b hb => ?_⟩
          have := (hcl j hj).2 b hb
          rw [← List.append_assoc]; exact List.mem_append_left _ this
        · have e : (spr x.2.2.2 ++ (A ++ B))[k]?.getD [] = y := by
            rw [← List.append_assoc, List.getElem?_append_left hk2, hyi]; rfl
          show (spr x.2.2.2 ++ (A ++ B))[k]?.getD [] ≠ _ ∧ _
          rw [e]
          refine ⟨hyN, fun b hb => ?_⟩
          obtain ⟨j, hj, rfl⟩ := List.getElem_of_mem hb
          have := hM j (by omega)
          rw [List.getElem?_eq_getElem hj] at this
          exact this
      · show (St.mk _ _) = _
        rw [wrapS (by omega)]
end Go.Proofs.SL
