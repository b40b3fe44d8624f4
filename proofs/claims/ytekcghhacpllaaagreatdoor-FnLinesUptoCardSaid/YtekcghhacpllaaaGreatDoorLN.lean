/- Contracts of functions of this program, by the evaluator EN. No conditions but those that each theorem states. -/
import Derived.Test.YtekcghhacpllaaaGreatDoorLK
import Derived.Test.YtekcghhacpllaaaGreatDoorGB
import Derived.Test.YtekcghhacpllaaaGreatDoorGD
set_option linter.unusedVariables false
set_option linter.unusedSimpArgs false
set_option maxRecDepth 100000
set_option maxHeartbeats 8000000
namespace Go.Proofs.SL
open Go Go.Proofs Go.Proofs.EN Go.Proofs.VT
variable {T : Tabs}
/-! ### A document as a whole -/
theorem docB_inv {d : QDoc} (h : docB d = true) : (1 ≤ d.length ∧ d.length ≤ 6) ∧ (∀ x ∈ d, okSels 7 x.2.2.2 = true ∧ 0 < qCnt x.2.2.2 ∧ defK x = true) ∧ cntDoc d ≤ 60 := by
  simp only [docB, Bool.and_eq_true, decide_eq_true_eq, List.all_eq_true, defB] at h
  obtain ⟨h1, h2, h3⟩ := h
  exact ⟨by simp [inB] at h1; omega, h2, h3⟩
theorem defK_kind {x : QDef} (h : defK x = true) : x.1 = 1 ∨ x.1 = 2 ∨ x.1 = 3 := by
  unfold defK at h
  by_cases h1 : x.1 = 1
  · exact .inl h1
  by_cases h2 : x.1 = 2
  · exact .inr (.inl h2)
  by_cases h3 : x.1 = 3
  · exact .inr (.inr h3)
  · simp [h1, h2, h3] at h
theorem limC_sz {d : QDoc} (hd : docB d = true) (h : limC d = 0) : ∀ x ∈ d, ∃ k, Sz d x.2.2.2 k ∧ k ≤ 400 := by
  intro x hx
  have ho : ∀ y ∈ d, OKs y.2.2.2 := fun y hy => ⟨7, ((docB_inv hd).2.1 y hy).1⟩
  have hl := firstC_0 h x hx
  unfold limD at hl
  split at hl
  · cases hl
  rename_i h1
  split at hl
  · cases hl
  rename_i h2
  obtain ⟨k, hk, e⟩ := lef_sz ho (N := 401) (deep := 12) (ss := x.2.2.2) (l := 400) (by omega) (ho x hx) (by omega) (by simpa using h1)
  exact ⟨k, hk, by omega⟩
def mrgD (d : QDoc) (x : QDef) : Int := if mer d 401 x.2.2.2 then 0 else 15
def mrgC (d : QDoc) : Int := firstC (mrgD d) d
theorem w181 {d : QDoc} {Kr Kp : C → List Ob → R} (hs : ∀ x ∈ d, ∃ k, Sz d x.2.2.2 k ∧ k ≤ 400) (h : Kr (.d (.int .i64 (mrgC d))) []) : Wp T Tryz.prog tt 181 [cDoc d] [] Kr Kp := by
  refine go (k := 181) (own := true) (cap := .deep) Tryz.func181 (by kernel_rfl) ?_
  (conv => whnf); repeat' (first | ((first | refine bdec ?_ ?_ | refine bnot ?_ ?_ | refine bsel_intro ?_ ?_ | skip) <;> intro hc <;> (try simp (disch := omega) only [nm, nq, Nat.reduceAdd, wrapI] at hc) <;> conv => whnf) | (refine .head _ rfl (by kernel_rfl) ?_; conv => whnf) | (refine And.intro ?_ ?_; (focus ((first | omega | decide | (simp (disch := omega) only [nm, nq, Nat.reduceAdd, wrapI] <;> omega) | (simp [strOf, nm, nq, Nat.reduceAdd] <;> omega) | exact Nat.le_of_ble_eq_true rfl | rfl); done)); conv => whnf) | (rw [vv]; conv => whnf) | (refine NilP.mk fun nb hnb => ?_; conv => whnf))
  refine loopOf (fun i : Nat => ⟨[(1, .ref 0 0), (3, .d (.int .i64 (i : Int)))], [.box [.d (.list 192 (dQDefs 222 237 201 d))]]⟩) (fun i => i ≤ d.length ∧ ∀ j, j < i → mrgD d ((d[j]?).getD default) = 0) (fun i => d.length - i) 0 rfl ⟨by omega, fun j hj => by omega⟩ ?_
  intro i I hi rec
  obtain ⟨hi1, hi2⟩ := hi
  obtain ⟨x, hx⟩ : ∃ x, (d[i]?).getD default = x := ⟨_, rfl⟩
  have hm : ∀ {Kr Kp : C → List Ob → R}, i < d.length → Kr (.d (.bool (mer d 401 x.2.2.2))) [] → Wp T Tryz.prog tt 207 [cDoc d, .d (dSS x.2.2.2)] [] Kr Kp := fun hlt hk0 => by
    obtain ⟨k, z, hk⟩ := hs x (List.mem_of_getElem? (of_getD hx hlt))
    exact w207 401 z (by omega) hk hk0
  (conv => whnf); repeat' (first | ((first | refine bdec ?_ ?_ | refine bnot ?_ ?_ | refine bsel_intro ?_ ?_ | skip) <;> intro hc <;> (try simp (disch := omega) only [nm, nq, Nat.reduceAdd, hx, wrapI] at hc) <;> conv => whnf) | (refine .head _ rfl (by kernel_rfl) ?_; conv => whnf) | (refine (fun hq => wpArgs (xs' := [cDoc d, .d (dSS x.2.2.2)]) (by simp only [nm, nq, Nat.reduceAdd, hx]) (hm (by omega) hq)) ?_; conv => whnf) | (apply pcall; (focus (intro _ _ hk; first | exact (fun hq => wpArgs (xs' := [cDoc d, .d (dSS x.2.2.2)]) (by simp only [nm, nq, Nat.reduceAdd, hx]) (hm (by omega) hq)) hk)); conv => whnf) | (refine And.intro ?_ ?_; (focus ((first | omega | decide | (simp (disch := omega) only [nm, nq, Nat.reduceAdd, hx, wrapI] <;> omega) | (simp [strOf, nm, nq, Nat.reduceAdd, hx] <;> omega) | exact Nat.le_of_ble_eq_true rfl | rfl); done)); conv => whnf) | (rw [vv]; conv => whnf) | (refine NilP.mk fun nb hnb => ?_; conv => whnf))
  · have e : mrgD d x = 15 := by rw [mrgD, (Bool.not_eq_true' _).mp hc]; rfl
    exact krI h (by rw [mrgC, firstC_bad (i := i) hi2 (by omega) (by rw [hx, e]; decide), hx, e])
  · have e : mrgD d x = 0 := by rw [mrgD, (Bool.not_eq_false' _).mp hc]; rfl
    refine eqI (rec (i + 1) ⟨by omega, lt_succ_split hi2 (by rw [hx]; exact e)⟩ (by omega)) ?_
    rw [wrapS (by omega)]
  · exact krI h (firstC_ok fun j hj => hi2 j (by omega))
open Classical in
noncomputable def valC (ts : List TypeDef) (d : QDoc) : Int := if (opC d).2 ≠ 0 then (opC d).2 else if typesC ts d ≠ 0 then typesC ts d else if cycB d then 13 else if limC d ≠ 0 then limC d else mrgC d
theorem w159 {ts : List TypeDef} {d : QDoc} {Kr Kp : C → List Ob → R} (ht : TypOK ts) (hd : docB d = true) (h : Kr (.d (.int .i64 (valC ts d))) []) : Wp T Tryz.prog tt 159 [cSch ts, cDoc d] [] Kr Kp := by
  obtain ⟨d1, d2, d3⟩ := docB_inv hd
  refine go (k := 159) (own := true) (cap := .deep) Tryz.func159 (by kernel_rfl) ?_
  (conv => whnf); repeat' (first | ((first | refine bdec ?_ ?_ | refine bnot ?_ ?_ | refine bsel_intro ?_ ?_ | skip) <;> intro hc <;> (try simp (disch := omega) only [nm, nq, Nat.reduceAdd, wrapI] at hc) <;> conv => whnf) | (refine .head _ rfl (by kernel_rfl) ?_; conv => whnf) | (refine w177 ?_; conv => whnf) | (refine w178 ht (fun x hx => by have := defK_kind (d2 x hx).2.2; omega) ?_; conv => whnf) | (refine w179 (by omega) ?_; conv => whnf) | (refine w180 ?_; conv => whnf) | (refine w181 (limC_sz hd ‹limC d = 0›) ?_; conv => whnf) | (apply pcall; (focus (intro _ _ hk; first | exact w177 hk | exact w178 ht (fun x hx => by have := defK_kind (d2 x hx).2.2; omega) hk | exact w179 (by omega) hk | exact w180 hk | exact w181 (limC_sz hd ‹limC d = 0›) hk)); conv => whnf) | (refine And.intro ?_ ?_; (focus ((first | omega | decide | (simp (disch := omega) only [nm, nq, Nat.reduceAdd, wrapI] <;> omega) | (simp [strOf, nm, nq, Nat.reduceAdd] <;> omega) | exact Nat.le_of_ble_eq_true rfl | rfl); done)); conv => whnf) | (rw [vv]; conv => whnf) | (refine NilP.mk fun nb hnb => ?_; conv => whnf))
  all_goals (refine krI h ?_; simp_all [valC]; done)
end Go.Proofs.SL
set_option linter.unusedVariables false
set_option linter.unusedSimpArgs false
set_option maxRecDepth 100000
set_option maxHeartbeats 8000000
namespace Go.Proofs.SL
open Go Go.Proofs Go.Proofs.EN Go.Proofs.VT
variable {T : Tabs}
/-! ### Requests' texts -/
theorem w162 {t u : Str} {Kr Kp : C → List Ob → R} (ht : t.length ≤ 1000000000) (hu : u.length ≤ 1000) (h : ∀ b, Kr (.d (.bool b)) []) : Wp T Tryz.prog tt 162 [.d (.str t), .d (.str u)] [] Kr Kp := by
  refine go (k := 162) (own := true) (cap := .deep) Tryz.func162 (by kernel_rfl) ?_
  (conv => whnf); repeat' (first | ((first | refine bdec ?_ ?_ | refine bnot ?_ ?_ | refine bsel_intro ?_ ?_ | skip) <;> intro hc <;> (try simp (disch := omega) only [nm, nq, Nat.reduceAdd, wrapI] at hc) <;> conv => whnf) | (refine .head _ rfl (by kernel_rfl) ?_; conv => whnf) | (refine And.intro ?_ ?_; (focus ((first | omega | decide | (simp (disch := omega) only [nm, nq, Nat.reduceAdd, wrapI] <;> omega) | (simp [strOf, nm, nq, Nat.reduceAdd] <;> omega) | exact Nat.le_of_ble_eq_true rfl | rfl); done)); conv => whnf) | (rw [vv]; conv => whnf) | (refine NilP.mk fun nb hnb => ?_; conv => whnf))
  refine loopOf (fun i : Nat => ⟨[(0, .d (.str t)), (1, .d (.str u)), (5, .d (.int .i64 (i : Int)))], []⟩) (fun i => i ≤ t.length + 1) (fun i => t.length + 1 - i) 0 rfl (by omega) ?_
  intro i I hi rec
  (conv => whnf); repeat' (first | ((first | refine bdec ?_ ?_ | refine bnot ?_ ?_ | refine bsel_intro ?_ ?_ | skip) <;> intro hc <;> (try simp (disch := omega) only [nm, nq, Nat.reduceAdd, wrapI] at hc) <;> conv => whnf) | (refine .head _ rfl (by kernel_rfl) ?_; conv => whnf) | (refine And.intro ?_ ?_; (focus ((first | omega | decide | (simp (disch := omega) only [nm, nq, Nat.reduceAdd, wrapI] <;> omega) | (simp [strOf, nm, nq, Nat.reduceAdd] <;> omega) | exact Nat.le_of_ble_eq_true rfl | rfl); done)); conv => whnf) | (rw [vv]; conv => whnf) | (refine NilP.mk fun nb hnb => ?_; conv => whnf))
  · exact h _
  · refine eqI (rec (i + 1) (by omega) (by omega)) ?_
    rw [wrapS (by omega)]
  · exact h _
abbrev QBindT := QArg
def bindT (a : QBindT) : Str := a.1 ++ [61] ++ valT a.2 ++ [32]
def reqT (d : QDoc) (vs : List QArg) : Str := (vs.map bindT).flatten ++ (if (vs.map bindT).flatten = [] then [] else [124, 32]) ++ docT d
theorem w127 {d : QDoc} {vs : List QArg} {Kr Kp : C → List Ob → R} (hn : d.length ≤ 100) (hd : ∀ x ∈ d, defP x) (hl : (docT d).length ≤ 1000000000) (hv : ∀ a ∈ vs, valP a.2) (hvl : (vs.map bindT).flatten.length ≤ 1000000) (h : Kr (.d (.str (reqT d vs))) []) : Wp T Tryz.prog tt 127 [.agg [.d (.list 192 (dQDefs 222 237 201 d)), .d (.list 179 (dQArgs vs))]] [] Kr Kp := by
  refine go (k := 127) (own := true) (cap := .deep) Tryz.func127 (by kernel_rfl) ?_
  (conv => whnf); repeat' (first | ((first | refine bdec ?_ ?_ | refine bnot ?_ ?_ | refine bsel_intro ?_ ?_ | skip) <;> intro hc <;> (try simp (disch := omega) only [nm, nq, Nat.reduceAdd, wrapI] at hc) <;> conv => whnf) | (refine .head _ rfl (by kernel_rfl) ?_; conv => whnf) | (refine And.intro ?_ ?_; (focus ((first | omega | decide | (simp (disch := omega) only [nm, nq, Nat.reduceAdd, wrapI] <;> omega) | (simp [strOf, nm, nq, Nat.reduceAdd] <;> omega) | exact Nat.le_of_ble_eq_true rfl | rfl); done)); conv => whnf) | (rw [vv]; conv => whnf) | (refine NilP.mk fun nb hnb => ?_; conv => whnf))
  refine loopOf (fun i : Nat => ⟨[(1, .ref 0 0), (3, .d (.str ((vs.take i).map bindT).flatten)), (4, .d (.int .i64 (i : Int)))], [.box [.d (.list 192 (dQDefs 222 237 201 d)), .d (.list 179 (dQArgs vs))]]⟩) (fun i => i ≤ vs.length) (fun i => vs.length - i) 0 rfl (by omega) ?_
  intro i I hi rec
  obtain ⟨⟨an, ak, ai, at0⟩, ha⟩ : ∃ a, (vs[i]?).getD default = a := ⟨_, rfl⟩
  have hva : i < vs.length → valP (ak, ai, at0) := fun h => hv _ (List.mem_of_getElem? (of_getD ha h))
  have hyx := fun h => flatS_succ bindT (of_getD ha h)
  have hyt := flatS_take_le bindT vs i
  have hyt2 := flatS_take_le bindT vs (i + 1)
  have hyl : i < vs.length → ((vs.take i).map bindT).flatten.length + an.length + (valT (ak, ai, at0)).length + 2 ≤ (vs.map bindT).flatten.length := fun h => by
    rw [hyx h] at hyt2
    simp only [bindT, List.length_append, List.length_cons, List.length_nil] at hyt2
    omega
  clear hyt2
  (conv => whnf); repeat' (first | ((first | refine bdec ?_ ?_ | refine bnot ?_ ?_ | refine bsel_intro ?_ ?_ | skip) <;> intro hc <;> (try simp (disch := omega) only [nm, nq, Nat.reduceAdd, ha, wrapI] at hc) <;> conv => whnf) | (refine .head _ rfl (by kernel_rfl) ?_; conv => whnf) | (refine (fun hq => wpArgs (xs' := [.agg [.d (.int .i64 ak), .d (.int .i64 ai), .d (.str at0)]]) (by simp only [nm, nq, Nat.reduceAdd, ha]) (w143 (hva (by omega)) (by have := hyl (by omega); omega) hq)) ?_; conv => whnf) | (refine w144 hn hd hl ?_; conv => whnf) | (apply pcall; (focus (intro _ _ hk; first | exact (fun hq => wpArgs (xs' := [.agg [.d (.int .i64 ak), .d (.int .i64 ai), .d (.str at0)]]) (by simp only [nm, nq, Nat.reduceAdd, ha]) (w143 (hva (by omega)) (by have := hyl (by omega); omega) hq)) hk | exact w144 hn hd hl hk)); conv => whnf) | (refine And.intro ?_ ?_; (focus ((first | omega | decide | (simp (disch := omega) only [nm, nq, Nat.reduceAdd, ha, wrapI] <;> omega) | (simp [strOf, nm, nq, Nat.reduceAdd, ha] <;> omega) | exact Nat.le_of_ble_eq_true rfl | rfl); done)); conv => whnf) | (rw [vv]; conv => whnf) | (refine NilP.mk fun nb hnb => ?_; conv => whnf))
  · refine eqI (rec (i + 1) (by omega) (by omega)) ?_
    rw [hyx (by omega), wrapS (by omega)]
    simp only [nm, nq, Nat.reduceAdd, ha]
    simp [bindT]
  all_goals
    rw [List.take_of_length_le (by omega)] at *
    refine krS h ?_
    rw [reqT]
    simp [hc]
/-! ### What is small enough -/
mutual
def smS : QSel → Prop
  | ⟨k, a, n, ar, di, ss⟩ => ownP ⟨k, a, n, ar, di, ss⟩ ∧ (ownT ⟨k, a, n, ar, di, ss⟩).length ≤ 1000 ∧ smL ss
def smL : List QSel → Prop
  | [] => True
  | x :: r => smS x ∧ smL r
end
theorem smS_eq (x : QSel) : smS x = (ownP x ∧ (ownT x).length ≤ 1000 ∧ smL x.sels) := by obtain ⟨k, a, n, ar, di, ss⟩ := x; rw [smS]
theorem smL_all : ∀ {ss : List QSel}, smL ss ↔ ∀ x ∈ ss, smS x
  | [] => by rw [smL]; simp
  | x :: r => by rw [smL, smL_all (ss := r)]; simp
theorem smL_append {a b : List QSel} : smL (a ++ b) ↔ smL a ∧ smL b := by
  rw [smL_all, smL_all, smL_all]
  constructor
  · exact fun h => ⟨fun x hx => h x (List.mem_append_left _ hx), fun x hx => h x (List.mem_append_right _ hx)⟩
  · intro ⟨h1, h2⟩ x hx
    rcases List.mem_append.1 hx with h | h
    · exact h1 x h
    · exact h2 x h
theorem smL_vp : ∀ (n : Nat) (ss : List QSel), qCnt ss ≤ n → smL ss → vpL ss ∧ (selsT ss).length ≤ 1010 * qCnt ss
  | _, [], _, _ => by rw [selsT_nil, vpL]; simp
  | 0, x :: r, h, _ => by rw [qCnt_cons] at h; omega
  | n + 1, x :: r, h, hs => by
    rw [qCnt_cons] at h
    rw [smL, smS_eq] at hs
    obtain ⟨⟨h1, h2, h3⟩, h4⟩ := hs
    obtain ⟨a1, a2⟩ := smL_vp n x.sels (by omega) h3
    obtain ⟨b1, b2⟩ := smL_vp n r (by omega) h4
    refine ⟨by rw [vpL, vpS_eq]; exact ⟨⟨h1, a1⟩, b1⟩, ?_⟩
    rw [selsT_cons, selT_eq, qCnt_cons]
    simp only [List.length_append, List.length_cons]
    split <;> simp only [List.length_append, List.length_cons, List.length_nil] <;> omega
theorem smL_text {ss : List QSel} (h : smL ss) (hq : qCnt ss ≤ 900) : vpL ss ∧ (textT ss).length ≤ 950000 := by
  obtain ⟨h1, h2⟩ := smL_vp _ ss (Nat.le_refl _) h
  refine ⟨h1, ?_⟩
  simp only [textT, List.length_append, List.length_cons, List.length_nil]; omega
end Go.Proofs.SL
set_option linter.unusedVariables false
set_option linter.unusedSimpArgs false
set_option maxRecDepth 100000
set_option maxHeartbeats 8000000
namespace Go.Proofs.SL
open Go Go.Proofs Go.Proofs.EN Go.Proofs.VT
variable {T : Tabs}
/-! ### A right document's text is small -/
theorem nameB_le {t : Str} (h : nameB t = true) : t.length ≤ 40 := by
  rcases Decidable.em (1 ≤ (t.length : Int) ∧ (t.length : Int) ≤ 40) with e | e
  · omega
  · rw [nameB_len e] at h; cases h
theorem optB_le {t : Str} (h : optB t = true) : t.length ≤ 40 := by
  simp only [optB, Bool.or_eq_true, decide_eq_true_eq] at h
  rcases h with rfl | h
  · simp
  · exact nameB_le h
theorem valB_sm {v : QVal} (h : valB v = true) : valP v ∧ (valT v).length ≤ 41 := by
  obtain ⟨k, n, t⟩ := v
  unfold valB at h
  simp only at h
  split at h
  · rename_i e
    simp [inB] at h
    have := itoa_len (n := n) (by omega)
    exact ⟨⟨by show _ ≤ n; omega, by show n ≤ _; omega, fun e2 => by simp only at e2; omega⟩, by simp only [valT, if_pos e]; omega⟩
  split at h
  · rename_i e1 e
    simp [inB] at h
    refine ⟨⟨by show _ ≤ n; omega, by show n ≤ _; omega, fun _ => by show 0 ≤ n ∧ n ≤ 1; omega⟩, ?_⟩
    simp only [valT, if_neg e1, if_pos e]
    split <;> simp
  split at h
  · rename_i e1 e2 e
    simp at h
    refine ⟨⟨by show _ ≤ n; omega, by show n ≤ _; omega, fun e3 => by simp only at e3; omega⟩, ?_⟩
    simp only [valT, if_neg e1, if_neg e2, if_neg (show ¬ k = 4 by omega)]
    simp
  split at h
  · rename_i e1 e2 e3 e
    simp at h
    have := nameB_le h.2
    refine ⟨⟨by show _ ≤ n; omega, by show n ≤ _; omega, fun e3 => by simp only at e3; omega⟩, ?_⟩
    simp only [valT, if_neg e1, if_neg e2, if_pos e, List.length_cons]; omega
  · cases h
theorem argsX_le {B : Nat} : ∀ (xs : List QArg) (k : Nat), (∀ a ∈ xs, a.1.length + (valT a.2).length + 3 ≤ B) → (argsX k xs).length ≤ xs.length * B
  | [], k, _ => by simp [argsX]
  | x :: xs, k, h => by
    have h1 := argsX_le xs (k + 1) fun a ha => h a (List.mem_cons_of_mem _ ha)
    have h2 := h x (List.mem_cons_self ..)
    have h3 : (argT k x).length = x.1.length + (valT x.2).length + 3 := by
      simp only [argT, List.length_append]
      split <;> simp <;> omega
    simp only [argsX, List.length_append, List.length_cons, Nat.add_mul, Nat.one_mul]; omega
theorem flat_le {α : Type} (f : α → Str) {B : Nat} : ∀ (xs : List α), (∀ a ∈ xs, (f a).length ≤ B) → (xs.map f).flatten.length ≤ xs.length * B
  | [], _ => by simp
  | x :: xs, h => by
    have h1 := flat_le f xs fun a ha => h a (List.mem_cons_of_mem _ ha)
    have h2 := h x (List.mem_cons_self ..)
    simp only [List.map_cons, List.flatten_cons, List.length_append, List.length_cons, Nat.add_mul, Nat.one_mul]; omega
theorem dirT_le {y : QDir} {B : Nat} (h : (valT y.2).length ≤ B) : (dirT y).length ≤ B + 15 := by
  simp only [dirT, List.length_append, List.length_cons, List.length_nil]
  split <;> simp <;> omega
theorem selB_sm {x : QSel} (h : selB x = true) : ownP x ∧ (ownT x).length ≤ 1000 := by
  simp only [selB, Bool.and_eq_true, List.all_eq_true, decide_eq_true_eq] at h
  obtain ⟨h1, h2, h3, h4, h5⟩ := h
  have ha : ∀ a ∈ x.args, a.1.length ≤ 40 ∧ valP a.2 ∧ (valT a.2).length ≤ 41 := fun a ha => by
    have := h2 a ha
    simp only [argOK, Bool.and_eq_true] at this
    exact ⟨nameB_le this.1, valB_sm this.2⟩
  have hd : ∀ y ∈ x.dirs, valP y.2 ∧ (valT y.2).length ≤ 41 := fun y hy => valB_sm (h1 y hy)
  refine ⟨⟨fun a h => (ha a h).2.1, fun y h => (hd y h).1⟩, ?_⟩
  have l1 := argsX_le (B := 84) x.args 0 fun a h => by have := ha a h; omega
  have l2 := flat_le dirT (B := 56) x.dirs fun y h => dirT_le (hd y h).2
  have l3 : (headT x).length ≤ 90 := by
    unfold kindB at h5
    unfold headT
    split at h5
    · rename_i e
      simp only [Bool.and_eq_true] at h5
      have := nameB_le h5.1; have := optB_le h5.2
      rw [if_pos e]; split <;> simp <;> omega
    rename_i e1
    split at h5
    · rename_i e
      simp only [Bool.and_eq_true] at h5
      have := nameB_le h5.1
      rw [if_neg e1, if_pos e]; simp; omega
    rename_i e2
    split at h5
    · simp only [Bool.and_eq_true] at h5
      have := optB_le h5.1
      rw [if_neg e1, if_neg e2]; split <;> simp; omega
    · cases h5
  have : (ownT x).length ≤ (headT x).length + (argsX 0 x.args).length + 1 + (x.dirs.map dirT).flatten.length := by
    simp only [ownT, List.length_append]; split <;> simp
  have : x.args.length * 84 ≤ 4 * 84 := Nat.mul_le_mul_right _ (by omega)
  have : x.dirs.length * 56 ≤ 4 * 56 := Nat.mul_le_mul_right _ (by omega)
  omega
theorem okSels_sm : ∀ (k : Nat) {ss : List QSel}, okSels k ss = true → smL ss
  | 0, ss, h => by
    obtain rfl : ss = [] := by simpa [okSels] using h
    rw [smL]; trivial
  | k + 1, ss, h => by
    rw [smL_all]
    intro x hx
    simp only [okSels, List.all_eq_true, Bool.and_eq_true] at h
    obtain ⟨h1, h2⟩ := h x hx
    rw [smS_eq]
    exact ⟨(selB_sm h1).1, (selB_sm h1).2, okSels_sm k h2⟩
theorem join_len {B : Nat} (ws : List Str) (hB : ∀ w ∈ ws, w.length ≤ B) : ∀ i, i ≤ ws.length → (Lib.join (ws.take i) [32]).length ≤ i * (B + 1)
  | 0, _ => by simp [Lib.join_nil]
  | i + 1, h => by
    have := join_len ws hB i (by omega)
    have hm : (ws[i]'(by omega)) ∈ ws := List.getElem_mem _
    have hb := hB _ hm
    rw [join_snoc ws [32] i (by omega)]
    have e : (ws[i]?.getD []) = ws[i]'(by omega) := by simp [show i < ws.length by omega]
    have h2 : (if 0 < i then Lib.join (ws.take i) [32] ++ [32] else Lib.join (ws.take i) [32]).length ≤ (Lib.join (ws.take i) [32]).length + 1 := by split <;> simp
    rw [Nat.add_mul, Nat.one_mul, List.length_append, e]
    omega
theorem doc_small {d : QDoc} (h : docB d = true) : (∀ x ∈ d, defP x) ∧ (docT d).length ≤ 10000000 := by
  obtain ⟨h1, h2, h3⟩ := docB_inv h
  have hp : ∀ x ∈ d, defP x := fun x hx => by
    obtain ⟨a1, a2, a3⟩ := h2 x hx
    have hq : qCnt x.2.2.2 ≤ cntDoc d := by
      obtain ⟨a, b, rfl⟩ := List.append_of_mem hx
      simp only [cntDoc, List.map_append, List.map_cons, List.sum_append, List.sum_cons]; omega
    obtain ⟨b1, b2⟩ := smL_text (okSels_sm 7 a1) (by omega)
    have hk := defK_kind a3
    refine ⟨by omega, b1, ?_⟩
    have hn : x.2.1.length ≤ 40 ∧ (x.1 = 3 → x.2.2.1.length ≤ 40) := by
      unfold defK at a3
      split at a3
      · rename_i e
        simp only [Bool.and_eq_true] at a3
        exact ⟨optB_le a3.2, fun e2 => by omega⟩
      split at a3
      · simp only [Bool.and_eq_true] at a3
        exact ⟨nameB_le a3.1, fun _ => nameB_le a3.2.2⟩
      · cases a3
    have hkw : (kwT x.1).length ≤ 10 := by unfold kwT; split <;> (try split) <;> (try split) <;> simp
    have : (if x.2.1 = [] then ([] : Str) else 32 :: x.2.1).length ≤ 41 := by split <;> simp; omega
    have : (if x.1 = 3 then [32, 111, 110, 32] ++ x.2.2.1 else ([] : Str)).length ≤ 44 := by
      split
      · rename_i e; have := hn.2 e; simp; omega
      · simp
    simp only [defT, List.length_append, List.length_cons, List.length_nil] at *
    omega
  refine ⟨hp, ?_⟩
  have := join_len (B := 1000000) (d.map defT) (fun w hw => by obtain ⟨x, hx, rfl⟩ := List.mem_map.1 hw; exact (hp x hx).2.2) d.length (by simp)
  rw [List.take_of_length_le (by simp)] at this
  have : d.length * (1000000 + 1) ≤ 6 * (1000000 + 1) := Nat.mul_le_mul_right _ (by omega)
  rw [docT]; omega
end Go.Proofs.SL
set_option linter.unusedVariables false
set_option linter.unusedSimpArgs false
set_option maxRecDepth 100000
set_option maxHeartbeats 8000000
namespace Go.Proofs.SL
open Go Go.Proofs Go.Proofs.EN Go.Proofs.VT
variable {T : Tabs}
/-! ### What is drawn -/
abbrev stS (B : Int) (a a' s' : Int) : Prop := a ≤ a' ∧ a' ≤ a + B ∧ 0 ≤ s' ∧ s' < 2147483648
/-- A source stands well: so much may still be drawn. -/
abbrev okA' (L a s : Int) : Prop := 0 ≤ a ∧ a ≤ 1000000000000000 - L ∧ 0 ≤ s ∧ s < 2147483648
def smV (v : QVal) : Prop := valP v ∧ (valT v).length ≤ 41
theorem smV_int {n : Int} (h : 0 ≤ n ∧ n ≤ 1000) (t : Str) : smV (1, n, t) := ⟨⟨by show _ ≤ n; omega, by show n ≤ _; omega, fun e => by simp only at e; omega⟩, by have := itoa_len (n := n) (by omega); simp only [valT, if_true]; omega⟩
theorem smV_bool {n : Int} (h : 0 ≤ n ∧ n ≤ 1) (t : Str) : smV (2, n, t) := ⟨⟨by show _ ≤ n; omega, by show n ≤ _; omega, fun e => h⟩, by simp only [valT]; split <;> (try split) <;> (try split) <;> (first | omega | simp)⟩
theorem smV_var {t : Str} (h : t.length ≤ 40) : smV (4, 0, t) := ⟨⟨by show _ ≤ (0 : Int); omega, by show (0 : Int) ≤ _; omega, fun e => by simp only at e; omega⟩, by simp [valT]; omega⟩
theorem smV_null (t : Str) : smV (3, 0, t) := ⟨⟨by show _ ≤ (0 : Int); omega, by show (0 : Int) ≤ _; omega, fun e => by simp only at e; omega⟩, by simp [valT]⟩
def strsOf (xs : List (List D)) : List Str := xs.map fun c => getS ((c[0]?).getD .z)
theorem xpick {t : Str} {a s : Int} {xs : List (List D)} {Kr Kp : C → List Ob → R} (hs : okA' 0 a s) (hx : dStr (strsOf xs) = xs) (hl : 0 < (strsOf xs).length ∧ (strsOf xs).length ≤ 1000) (hb : (strsOf xs).all (fun w => Nat.ble w.length 40) = true) (h : ∀ w a' s', w.length ≤ 40 → stS 3 a a' s' → Kr (.d (.str w)) [oS t a' s']) : Wp T Tryz.prog tt 70 [.ref 0 0, .d (.list 9 xs)] [oS t a s] Kr Kp := by
  rw [← hx]
  refine w70 ⟨hs.1, (by omega), hs.2.2.1, hs.2.2.2⟩ hl fun w a' s' hw h1 h2 h3 h4 => h w a' s' ?_ ⟨h1, h2, h3, h4⟩
  rw [List.all_eq_true] at hb
  exact Nat.le_of_ble_eq_true (hb w hw)
theorem xnext {t : Str} {a s n : Int} {Kr Kp : C → List Ob → R} (hs : okA' 0 a s) (hn : 1 ≤ n ∧ n ≤ 16777216) (h : ∀ k a' s', 0 ≤ k → k < n → stS 3 a a' s' → Kr (.d (.int .i64 k)) [oS t a' s']) : Wp T Tryz.prog tt 92 [.ref 0 0, .d (.int .i64 n)] [oS t a s] Kr Kp :=
  w92 ⟨hs.1, (by omega), hs.2.2.1, hs.2.2.2⟩ hn.2 fun k a' s' h1 h2 h3 h4 h5 h6 => h k a' s' h1 (by omega) ⟨h3, h4, h5, h6⟩
theorem xchance {t : Str} {a s n : Int} {Kr Kp : C → List Ob → R} (hs : okA' 0 a s) (hn : 1 ≤ n ∧ n ≤ 16777216) (h : ∀ b a' s', stS 3 a a' s' → Kr (.d (.bool b)) [oS t a' s']) : Wp T Tryz.prog tt 69 [.ref 0 0, .d (.int .i64 n)] [oS t a s] Kr Kp :=
  w69 ⟨hs.1, (by omega), hs.2.2.1, hs.2.2.2⟩ hn fun b a' s' h3 h4 h5 h6 => h b a' s' ⟨h3, h4, h5, h6⟩
theorem w184 {t : Str} {a s : Int} {Kr Kp : C → List Ob → R} (hs : okA' 10 a s) (h : ∀ (k n : Int) (u : Str) a' s', smV (k, n, u) → stS 6 a a' s' → Kr (cVal (k, n, u)) [oS t a' s']) : Wp T Tryz.prog tt 184 [.ref 0 0] [oS t a s] Kr Kp := by
  refine go (k := 184) (own := true) (cap := .deep) Tryz.func184 (by kernel_rfl) ?_
  (conv => whnf); repeat' (first | ((first | refine bdec ?_ ?_ | refine bnot ?_ ?_ | refine bsel_intro ?_ ?_ | skip) <;> intro hc <;> (try simp (disch := omega) only [nm, dQArgs_len, dQDirs_len, dQSels_len, dQDefs_len, dBy_len, dBy_0, Nat.reduceAdd, wrapI] at hc) <;> conv => whnf) | (refine .head _ rfl (by kernel_rfl) ?_; conv => whnf) | (refine xnext (by omega) (by omega) (fun k0 a0 s0 k1 k2 q1 => ?_) <;> conv => whnf) | (refine xpick (by omega) (by rfl) (by decide) (by rfl) (fun w0 a3 s3 hw q2 => ?_) <;> conv => whnf) | (apply pcall; (focus (intro _ _ hk; first | exact xnext (by omega) (by omega) (fun k0 a0 s0 k1 k2 q1 => ?_) hk | exact xpick (by omega) (by rfl) (by decide) (by rfl) (fun w0 a3 s3 hw q2 => ?_) hk)); conv => whnf) | (refine And.intro ?_ ?_; (focus ((first | omega | decide | (simp (disch := omega) only [nm, dQArgs_len, dQDirs_len, dQSels_len, dQDefs_len, dBy_len, dBy_0, Nat.reduceAdd, wrapI] <;> omega) | (simp [strOf, nm, dQArgs_len, dQDirs_len, dQSels_len, dQDefs_len, dBy_len, dBy_0, Nat.reduceAdd] <;> omega) | exact Nat.le_of_ble_eq_true rfl | rfl); done)); conv => whnf) | (rw [vv]; conv => whnf) | (refine NilP.mk fun nb hnb => ?_; conv => whnf))
  · exact h _ _ _ _ _ (smV_var hw) (by omega)
  · exact h _ _ _ _ _ (smV_null _) (by omega)
  · exact h _ _ _ _ _ (smV_int (by omega) _) (by omega)
theorem w213 {t : Str} {a s : Int} {Kr Kp : C → List Ob → R} (hs : okA' 10 a s) (h : ∀ (k n : Int) (u : Str) a' s', smV (k, n, u) → stS 6 a a' s' → Kr (cVal (k, n, u)) [oS t a' s']) : Wp T Tryz.prog tt 213 [.ref 0 0] [oS t a s] Kr Kp := by
  refine go (k := 213) (own := true) (cap := .deep) Tryz.func213 (by kernel_rfl) ?_
  (conv => whnf); repeat' (first | ((first | refine bdec ?_ ?_ | refine bnot ?_ ?_ | refine bsel_intro ?_ ?_ | skip) <;> intro hc <;> (try simp (disch := omega) only [nm, dQArgs_len, dQDirs_len, dQSels_len, dQDefs_len, dBy_len, dBy_0, Nat.reduceAdd, wrapI] at hc) <;> conv => whnf) | (refine .head _ rfl (by kernel_rfl) ?_; conv => whnf) | (refine xnext (by omega) (by omega) (fun k0 a0 s0 k1 k2 q1 => ?_) <;> conv => whnf) | (refine xchance (by omega) (by omega) (fun b0 a3 s3 q2 => ?_) <;> conv => whnf) | (apply pcall; (focus (intro _ _ hk; first | exact xnext (by omega) (by omega) (fun k0 a0 s0 k1 k2 q1 => ?_) hk | exact xchance (by omega) (by omega) (fun b0 a3 s3 q2 => ?_) hk)); conv => whnf) | (refine And.intro ?_ ?_; (focus ((first | omega | decide | (simp (disch := omega) only [nm, dQArgs_len, dQDirs_len, dQSels_len, dQDefs_len, dBy_len, dBy_0, Nat.reduceAdd, wrapI] <;> omega) | (simp [strOf, nm, dQArgs_len, dQDirs_len, dQSels_len, dQDefs_len, dBy_len, dBy_0, Nat.reduceAdd] <;> omega) | exact Nat.le_of_ble_eq_true rfl | rfl); done)); conv => whnf) | (rw [vv]; conv => whnf) | (refine NilP.mk fun nb hnb => ?_; conv => whnf))
  · exact h _ _ _ _ _ (smV_var (by simp)) (by omega)
  · exact h _ _ _ _ _ (smV_bool (by omega) _) (by omega)
theorem w185 {t : Str} {a s : Int} {Kr Kp : C → List Ob → R} (hs : okA' 30 a s) (h : ∀ (di : List QDir) a' s', (∀ y ∈ di, smV y.2) → di.length ≤ 1 → stS 20 a a' s' → ∀ ver, Kr (.row 1) [oS t a' s', .row 237 .deep ver (dQDirs di)]) : Wp T Tryz.prog tt 185 [.ref 0 0] [oS t a s] Kr Kp := by
  refine go (k := 185) (own := true) (cap := .deep) Tryz.func185 (by kernel_rfl) ?_
  (conv => whnf); repeat' (first | ((first | refine bdec ?_ ?_ | refine bnot ?_ ?_ | refine bsel_intro ?_ ?_ | skip) <;> intro hc <;> (try simp (disch := omega) only [nm, dQArgs_len, dQDirs_len, dQSels_len, dQDefs_len, dBy_len, dBy_0, Nat.reduceAdd, wrapI] at hc) <;> conv => whnf) | (refine .head _ rfl (by kernel_rfl) ?_; conv => whnf) | (refine aheadAtB 185 (by kernel_rfl) (by kernel_rfl) ?_; conv => whnf) | (refine PAnd.mk ?_ ?_ <;> conv => whnf) | exact PTrue.mk | (refine .head _ rfl (by kernel_rfl) ?_; conv => whnf) | (refine w213 (by omega) (fun k0 n0 u0 a0 s0 hv0 q1 => ?_) <;> conv => whnf) | (refine xchance (by omega) (by omega) (fun b0 a3 s3 q2 => ?_) <;> conv => whnf) | (apply pcall; (focus (intro _ _ hk; first | exact w213 (by omega) (fun k0 n0 u0 a0 s0 hv0 q1 => ?_) hk | exact xchance (by omega) (by omega) (fun b0 a3 s3 q2 => ?_) hk)); conv => whnf) | (refine And.intro ?_ ?_; (focus ((first | omega | decide | (simp (disch := omega) only [nm, dQArgs_len, dQDirs_len, dQSels_len, dQDefs_len, dBy_len, dBy_0, Nat.reduceAdd, wrapI] <;> omega) | (simp [strOf, nm, dQArgs_len, dQDirs_len, dQSels_len, dQDefs_len, dBy_len, dBy_0, Nat.reduceAdd] <;> omega) | exact Nat.le_of_ble_eq_true rfl | rfl); done)); conv => whnf) | (rw [vv]; conv => whnf) | (refine NilP.mk fun nb hnb => ?_; conv => whnf))
  · exact h [(b0, k0, n0, u0)] _ _ (by simpa using hv0) (by simp) (by omega) 0
  · exact h [] _ _ (by simp) (by simp) (by omega) 0
end Go.Proofs.SL
set_option linter.unusedVariables false
set_option linter.unusedSimpArgs false
set_option maxRecDepth 100000
set_option maxHeartbeats 8000000
namespace Go.Proofs.SL
open Go Go.Proofs Go.Proofs.EN Go.Proofs.VT
variable {T : Tabs}
def bB : Nat → Int
  | 0 => 200
  | k + 1 => 4 * bB k
def bQ : Nat → Nat
  | 0 => 3
  | k + 1 => 3 * (1 + bQ k)
theorem bB_ge : ∀ k, 200 ≤ bB k
  | 0 => by decide
  | k + 1 => by have := bB_ge k; rw [bB]; omega
theorem sm_one {x : QSel} (h1 : ownP x) (h2 : (ownT x).length ≤ 1000) (h3 : smL x.sels) : smL [x] := by
  rw [smL_all]; intro y hy; rw [List.mem_singleton.1 hy, smS_eq]; exact ⟨h1, h2, h3⟩
/-- A selection of small parts. -/
theorem sm_sel {k : Int} {al n : Str} {ar : List QArg} {di : List QDir} {ss : List QSel} (h1 : al.length ≤ 40) (h2 : n.length ≤ 40) (h3 : ∀ a ∈ ar, a.1.length ≤ 40 ∧ smV a.2) (h4 : ar.length ≤ 2) (h5 : ∀ y ∈ di, smV y.2) (h6 : di.length ≤ 1) (h7 : smL ss) : smL [(⟨k, al, n, ar, di, ss⟩ : QSel)] := by
  refine sm_one ⟨fun a ha => (h3 a ha).2.1, fun y hy => (h5 y hy).1⟩ ?_ h7
  have l1 := argsX_le (B := 84) ar 0 fun a h => by have := h3 a h; have := this.2.2; omega
  have l2 := flat_le dirT (B := 56) di fun y h => dirT_le (h5 y h).2
  have l3 : (headT ⟨k, al, n, ar, di, ss⟩).length ≤ 90 := by
    unfold headT
    split
    · split <;> simp <;> omega
    · split
      · simp; omega
      · split <;> simp; omega
  have : (ownT ⟨k, al, n, ar, di, ss⟩).length ≤ (headT ⟨k, al, n, ar, di, ss⟩).length + (argsX 0 ar).length + 1 + (di.map dirT).flatten.length := by
    simp only [ownT, List.length_append]; split <;> simp
  have : ar.length * 84 ≤ 2 * 84 := Nat.mul_le_mul_right _ h4
  have : di.length * 56 ≤ 1 * 56 := Nat.mul_le_mul_right _ h6
  omega
theorem nodeStep {t : Str} {k : Nat} {a s B : Int} {Q : Nat} {Kr Kp : C → List Ob → R} (hk : k ≤ 10) (hB : 0 ≤ B ∧ B ≤ 13000) (hs : okA' (1000000 * (k + 1)) a s)
    (ih : 0 < k → ∀ {a s : Int} {Kr Kp : C → List Ob → R}, okA' (1000000 * k) a s → (∀ (ss : List QSel) a' s', smL ss → qCnt ss ≤ Q → 1 ≤ ss.length → stS B a a' s' → ∀ ver, Kr (.row 1) [oS t a' s', .row 201 .deep ver (dQSels 222 237 201 ss)]) → Wp T Tryz.prog tt 163 [.ref 0 0, .d (.int .i64 ((k : Int) - 1))] [oS t a s] Kr Kp)
    (h : ∀ (ss : List QSel) a' s', smL ss → qCnt ss ≤ 3 * (1 + Q) → 1 ≤ ss.length → stS (3 + 3 * (60 + B)) a a' s' → ∀ ver, Kr (.row 1) [oS t a' s', .row 201 .deep ver (dQSels 222 237 201 ss)]) : Wp T Tryz.prog tt 163 [.ref 0 0, .d (.int .i64 (k : Int))] [oS t a s] Kr Kp := by
  obtain ⟨M, hM⟩ : ∃ M, 60 + B = M := ⟨_, rfl⟩
  obtain ⟨N, hN⟩ : ∃ N : Int, 1 + (Q : Int) = N := ⟨_, rfl⟩
  have hw : IntKind.i64.wrap ((k : Int) - 1) = (k : Int) - 1 := wrapI (by omega) (by omega)
  refine go (k := 163) (own := true) (cap := .deep) Tryz.func163 (by kernel_rfl) ?_
  (conv => whnf); repeat' (first | ((first | refine bdec ?_ ?_ | refine bnot ?_ ?_ | refine bsel_intro ?_ ?_ | skip) <;> intro hc <;> (try simp (disch := omega) only [nm, dQArgs_len, dQDirs_len, dQSels_len, dQDefs_len, dBy_len, dBy_0, Nat.reduceAdd, wrapI] at hc) <;> conv => whnf) | (refine .head _ rfl (by kernel_rfl) ?_; conv => whnf) | (refine .head _ rfl (by kernel_rfl) ?_; conv => whnf) | (refine xnext (by omega) (by omega) (fun k0 a0 s0 k1 k2 q1 => ?_) <;> conv => whnf) | (apply pcall; (focus (intro _ _ hk; first | exact xnext (by omega) (by omega) (fun k0 a0 s0 k1 k2 q1 => ?_) hk)); conv => whnf) | (refine And.intro ?_ ?_; (focus ((first | omega | decide | (simp (disch := omega) only [nm, dQArgs_len, dQDirs_len, dQSels_len, dQDefs_len, dBy_len, dBy_0, Nat.reduceAdd, wrapI] <;> omega) | (simp [strOf, nm, dQArgs_len, dQDirs_len, dQSels_len, dQDefs_len, dBy_len, dBy_0, Nat.reduceAdd] <;> omega) | exact Nat.le_of_ble_eq_true rfl | rfl); done)); conv => whnf) | (rw [vv]; conv => whnf) | (refine NilP.mk fun nb hnb => ?_; conv => whnf))
  have hkM : 0 ≤ k0 * M := Int.mul_nonneg k1 (by omega)
  have hkN : 0 ≤ k0 * N := Int.mul_nonneg k1 (by omega)
  have hM3 : (2 - k0) * M = 2 * M - k0 * M := by rw [Int.sub_mul]
  have hN3 : (2 - k0) * N = 2 * N - k0 * N := by rw [Int.sub_mul]
  have hM4 : 0 ≤ (2 - k0) * M := Int.mul_nonneg (by omega) (by omega)
  have hN4 : 0 ≤ (2 - k0) * N := Int.mul_nonneg (by omega) (by omega)
  have hM5 : (1 + k0) * M = M + k0 * M := by rw [Int.add_mul, Int.one_mul]
  have hN5 : (1 + k0) * N = N + k0 * N := by rw [Int.add_mul, Int.one_mul]
  refine loopOf4 (fun (i : Int) (b : Int) (u : Int) (ss : List QSel) => ⟨[(0, .ref 0 0), (1, .d (.int .i64 (k : Int))), (5, .row 1), (6, .d (.int .i64 i))], [oS t b u, .row 201 .deep 0 (dQSels 222 237 201 ss)]⟩) (fun i b u ss => 0 ≤ i ∧ i ≤ 3 ∧ 0 ≤ u ∧ u < 2147483648 ∧ a ≤ b ∧ b ≤ a + 3 + 3 * M - i * M ∧ smL ss ∧ (qCnt ss : Int) ≤ 3 * N - i * N ∧ 1 ≤ ss.length + i ∧ ss.length + i ≤ 3) (fun i _ _ _ => i.toNat) (1 + k0) a0 s0 [] ?_ ⟨?_, ?_, ?_, ?_, ?_, ?_, ?_, ?_, ?_, ?_⟩ ?_
  · rw [wrapI (by omega) (by omega)]; simp [dQSels]
  iterate 6 omega
  · rw [smL]; trivial
  · rw [qCnt_nil, hN5]; omega
  · simp; omega
  · simp; omega
  intro i b u ss I ⟨g1, g2, g3, g4, g5, g6, g7, g8, g9, g10⟩ rec
  have hiM : (i - 1) * M = i * M - M := by rw [Int.sub_mul, Int.one_mul]
  have hiN : (i - 1) * N = i * N - N := by rw [Int.sub_mul, Int.one_mul]
  have hiM0 : 0 ≤ i * M := Int.mul_nonneg g1 (by omega)
  have hiN0 : 0 ≤ i * N := Int.mul_nonneg g1 (by omega)
  have hiM1 : 0 < i → 0 ≤ (i - 1) * M := fun h => Int.mul_nonneg (by omega) (by omega)
  have hiN1 : 0 < i → 0 ≤ (i - 1) * N := fun h => Int.mul_nonneg (by omega) (by omega)
  clear hkM hkN hM3 hN3 hM4 hN4 hM5 hN5
  have key : 0 < i → ∀ (x : QSel) (b' u' : Int), smL [x] → qCnt x.sels ≤ Q → b ≤ b' → b' ≤ b + M → 0 ≤ u' → u' < 2147483648 → I ⟨[(0, .ref 0 0), (1, .d (.int .i64 (k : Int))), (5, .row 1), (6, .d (.int .i64 (IntKind.i64.wrap (i - 1))))], [oS t b' u', .row 201 .deep 0 (dQSels 222 237 201 ss ++ [[.int .i64 x.kind, .str x.alias, .str x.name, .list 222 (dQArgs x.args), .list 237 (dQDirs x.dirs), .list 201 (dQSels 222 237 201 x.sels)]])]⟩ := fun hi x b' u' e1 e2 e3 e4 e5 e6 => by
    refine eqI (rec (i - 1) b' u' (ss ++ [x]) ⟨by omega, by omega, by omega, by omega, by omega, by omega, smL_append.2 ⟨g7, e1⟩, ?_, ?_, ?_⟩ (by omega)) ?_
    · rw [qCnt_append, qCnt_cons, qCnt_nil, hiN]; omega
    · simp only [List.length_append, List.length_cons, List.length_nil]; omega
    · simp only [List.length_append, List.length_cons, List.length_nil]; omega
    · rw [wrapI (by omega) (by omega)]; simp [dQSels_map, dQSel_eq]
  (conv => whnf); repeat' (first | ((first | refine bdec ?_ ?_ | refine bnot ?_ ?_ | refine bsel_intro ?_ ?_ | skip) <;> intro hc <;> (try simp (disch := omega) only [nm, dQArgs_len, dQDirs_len, dQSels_len, dQDefs_len, dBy_len, dBy_0, Nat.reduceAdd, wrapI] at hc) <;> conv => whnf) | (refine .head _ rfl (by kernel_rfl) ?_; conv => whnf) | (refine aheadAtB 163 (by kernel_rfl) (by kernel_rfl) ?_; conv => whnf) | (refine PAnd.mk ?_ ?_ <;> conv => whnf) | exact PTrue.mk | (refine .head _ rfl (by kernel_rfl) ?_; conv => whnf) | (rw [hw]) | (refine xnext (by omega) (by omega) (fun k0 a0 s0 k1 k2 q1 => ?_) <;> conv => whnf) | (refine xpick (by omega) (by rfl) (by decide) (by rfl) (fun w0 a3 s3 hw0 q2 => ?_) <;> conv => whnf) | (refine w185 (by omega) (fun di a4 s4 hd4 hl4 q4 ver4 => ?_) <;> conv => whnf) | (refine w184 (by omega) (fun vk vn vu a5 s5 hv5 q5 => ?_) <;> conv => whnf) | (refine ih (by omega) (by omega) (fun sub a6 s6 hs6 hq6 hl6 q6 ver6 => ?_) <;> conv => whnf) | (apply pcall; (focus (intro _ _ hk; first | exact xnext (by omega) (by omega) (fun k0 a0 s0 k1 k2 q1 => ?_) hk | exact xpick (by omega) (by rfl) (by decide) (by rfl) (fun w0 a3 s3 hw0 q2 => ?_) hk | exact w185 (by omega) (fun di a4 s4 hd4 hl4 q4 ver4 => ?_) hk | exact w184 (by omega) (fun vk vn vu a5 s5 hv5 q5 => ?_) hk | exact ih (by omega) (by omega) (fun sub a6 s6 hs6 hq6 hl6 q6 ver6 => ?_) hk)); conv => whnf) | (refine And.intro ?_ ?_; (focus ((first | omega | decide | (simp (disch := omega) only [nm, dQArgs_len, dQDirs_len, dQSels_len, dQDefs_len, dBy_len, dBy_0, Nat.reduceAdd, wrapI] <;> omega) | (simp [strOf, nm, dQArgs_len, dQDirs_len, dQSels_len, dQDefs_len, dBy_len, dBy_0, Nat.reduceAdd] <;> omega) | exact Nat.le_of_ble_eq_true rfl | rfl); done)); conv => whnf) | (rw [vv]; conv => whnf) | (refine NilP.mk fun nb hnb => ?_; conv => whnf))
  all_goals first
    | (refine key (by omega) ⟨_, _, _, [], di, []⟩ _ _ ?_ ?_ ?_ ?_ ?_ ?_ <;> (first
        | omega
        | (refine sm_sel ?_ ?_ ?_ ?_ ?_ ?_ ?_ <;> first | assumption | (simp; done) | (rw [smL]; trivial) | (intro a ha; rw [List.mem_singleton.1 ha]; exact ⟨by simp, hv5⟩))
        | (show qCnt [] ≤ _; rw [qCnt_nil]; omega)))
    | (refine key (by omega) ⟨_, _, _, [], di, sub⟩ _ _ ?_ ?_ ?_ ?_ ?_ ?_ <;> (first
        | omega
        | (refine sm_sel ?_ ?_ ?_ ?_ ?_ ?_ ?_ <;> first | assumption | (simp; done) | (rw [smL]; trivial) | (intro a ha; rw [List.mem_singleton.1 ha]; exact ⟨by simp, hv5⟩))
        | (show qCnt [] ≤ _; rw [qCnt_nil]; omega)))
    | (refine key (by omega) ⟨_, _, _, [([98, 121], vk, vn, vu)], di, []⟩ _ _ ?_ ?_ ?_ ?_ ?_ ?_ <;> (first
        | omega
        | (refine sm_sel ?_ ?_ ?_ ?_ ?_ ?_ ?_ <;> first | assumption | (simp; done) | (rw [smL]; trivial) | (intro a ha; rw [List.mem_singleton.1 ha]; exact ⟨by simp, hv5⟩))
        | (show qCnt [] ≤ _; rw [qCnt_nil]; omega)))
    | (refine h ss b u g7 ?_ ?_ ?_ 0 <;> omega)
    | (exfalso; omega)
theorem bB_le {k : Nat} (h : k ≤ 3) : bB k ≤ 12800 := by
  obtain rfl | rfl | rfl | rfl : k = 0 ∨ k = 1 ∨ k = 2 ∨ k = 3 := by omega
  all_goals decide
theorem w163 {t : Str} : ∀ (k : Nat) {a s : Int} {Kr Kp : C → List Ob → R}, k ≤ 3 → okA' (1000000 * (k + 1)) a s → (h : ∀ (ss : List QSel) a' s', smL ss → qCnt ss ≤ bQ k → 1 ≤ ss.length → stS (bB k) a a' s' → ∀ ver, Kr (.row 1) [oS t a' s', .row 201 .deep ver (dQSels 222 237 201 ss)]) → Wp T Tryz.prog tt 163 [.ref 0 0, .d (.int .i64 (k : Int))] [oS t a s] Kr Kp
  | 0, a, s, Kr, Kp, hk, hs, h => nodeStep (B := 0) (Q := 0) (by omega) (by omega) hs (fun e => absurd e (by omega)) fun ss a' s' h1 h2 h3 h4 ver => h ss a' s' h1 (by rw [bQ]; omega) h3 (by rw [bB]; omega) ver
  | k + 1, a, s, Kr, Kp, hk, hs, h => by
    have hB := bB_ge k
    have hB2 := bB_le (k := k) (by omega)
    refine nodeStep (B := bB k) (Q := bQ k) (by omega) (by omega) hs (fun _ => ?_) fun ss a' s' h1 h2 h3 h4 ver => h ss a' s' h1 (by rw [bQ]; exact h2) h3 (by rw [bB]; omega) ver
    intro a s Kr Kp hs h
    have e : (((k + 1 : Nat) : Int) - 1) = (k : Int) := by omega
    rw [e]
    exact w163 k (by omega) (by omega) h
end Go.Proofs.SL
