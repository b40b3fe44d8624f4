/- Contracts of functions of this program, by the evaluator EN. No conditions but those that each theorem states. -/
import Derived.Test.YtekcghhacpllaaaGreatDoorEHg
import Derived.Test.YtekcghhacpllaaaGreatDoorMG
import Derived.Test.YtekcghhacpllaaaGreatDoorLI
set_option linter.unusedVariables false
set_option linter.unusedSimpArgs false
set_option maxRecDepth 100000
set_option maxHeartbeats 8000000
namespace Go.Proofs.SL
open Go Go.Proofs Go.Proofs.EN Go.Proofs.VT
variable {T : Tabs}
theorem zw_succ : ∀ {ks : List Nat} {cs : List (List Ver)} {c : List Ver} {k : Nat}, cs[ks.length]? = some c → List.zipWith (fun (c : List Ver) k => c.drop k) cs (ks ++ [k]) = List.zipWith (fun c k => c.drop k) cs ks ++ [c.drop k]
  | [], [], c, k, h => by simp at h
  | [], a :: r, c, k, h => by simp at h; subst h; simp
  | q :: ks, [], c, k, h => by simp at h
  | q :: ks, a :: r, c, k, h => by
    have := zw_succ (ks := ks) (cs := r) (c := c) (k := k) (by simpa using h)
    simp only [List.cons_append, List.zipWith_cons_cons, this]
end Go.Proofs.SL
set_option linter.unusedVariables false
set_option linter.unusedSimpArgs false
set_option maxRecDepth 100000
set_option maxHeartbeats 8000000
namespace Go.Proofs.SL
open Go Go.Proofs Go.Proofs.EN Go.Proofs.VT
/-! ### Stores stay right -/
def chQ (n : Int) (key : Nat) (c : List Ver) : Prop := (∀ p ∈ c, 1 ≤ p.1 ∧ p.1 ≤ n ∧ valK key p.2 = true) ∧ c.Pairwise fun a b => a.1 < b.1
theorem chQ_mono {n m : Int} {key : Nat} {c : List Ver} (h : chQ n key c) (hm : n ≤ m) : chQ m key c := ⟨fun p hp => by have := h.1 p hp; exact ⟨this.1, by omega, this.2.2⟩, h.2⟩
theorem chQ_sub {n : Int} {key : Nat} {c d : List Ver} (h : chQ n key c) (hs : d.Sublist c) : chQ n key d := ⟨fun p hp => h.1 p (hs.subset hp), h.2.sublist hs⟩
theorem chQ_put {n : Int} {key : Nat} {c : List Ver} {v : Int} (h : chQ n key c) (hn : 1 ≤ n) (hv : valK key v = true) : chQ n key (putC n c v) := by
  have hp := List.pairwise_iff_getElem.1 h.2
  unfold putC
  split
  · rename_i e
    have h0 : 0 < c.length := List.length_pos_iff.2 e.1
    have el : ((c[c.length - 1]?).getD default) = c[c.length - 1]'(by omega) := by rw [List.getElem?_eq_getElem (by omega)]; rfl
    rw [el] at e
    have hs : (c.take (c.length - 1)).Sublist c := List.take_sublist _ _
    have h2 := chQ_sub h hs
    refine ⟨fun p hm => ?_, ?_⟩
    · rcases List.mem_append.1 hm with hm | hm
      · exact h2.1 p hm
      · rw [List.mem_singleton.1 hm]; exact ⟨hn, Int.le_refl _, hv⟩
    · rw [List.pairwise_append]
      refine ⟨h2.2, List.pairwise_singleton .., fun a ha b hb => ?_⟩
      rw [List.mem_singleton.1 hb]
      obtain ⟨j, hj, rfl⟩ := List.getElem_of_mem ha
      have hj2 : j < c.length - 1 := by simp at hj; omega
      have := hp j (c.length - 1) (by omega) (by omega) hj2
      rw [e.2] at this
      simpa using this
  · rename_i e
    refine ⟨fun p hm => ?_, ?_⟩
    · rcases List.mem_append.1 hm with hm | hm
      · exact h.1 p hm
      · rw [List.mem_singleton.1 hm]; exact ⟨hn, Int.le_refl _, hv⟩
    · rw [List.pairwise_append]
      refine ⟨h.2, List.pairwise_singleton .., fun a ha b hb => ?_⟩
      rw [List.mem_singleton.1 hb]
      obtain ⟨j, hj, rfl⟩ := List.getElem_of_mem ha
      have h0 : 0 < c.length := by omega
      have el : ((c[c.length - 1]?).getD default) = c[c.length - 1]'(by omega) := by rw [List.getElem?_eq_getElem (by omega)]; rfl
      have hne : ¬ (c[c.length - 1]'(by omega)).1 = n := fun e2 => e ⟨List.length_pos_iff.1 h0, by rw [el]; exact e2⟩
      have hl := (h.1 (c[c.length - 1]'(by omega)) (List.getElem_mem _)).2.1
      rcases Nat.lt_or_ge j (c.length - 1) with hj2 | hj2
      · have := hp j (c.length - 1) (by omega) (by omega) hj2
        show (c[j]).1 < n; omega
      · obtain rfl : j = c.length - 1 := by omega
        show (c[c.length - 1]).1 < n; omega
def stQ (n : Int) (cs : List (List Ver)) : Prop := cs.length = 16 ∧ ∀ i c, cs[i]? = some c → chQ n i c
theorem stQ_wrS {n : Int} {cs : List (List Ver)} {p : Ver} (h : stQ n cs) (hn : 1 ≤ n) (hp : putP p) : stQ n (wrS n cs p) := by
  refine ⟨by rw [wrS, List.length_set]; exact h.1, fun i c hc => ?_⟩
  rw [wrS, List.getElem?_set] at hc
  split at hc
  · rename_i e
    subst e
    split at hc
    · rename_i hlt
      rw [← Option.some.inj hc, List.getElem?_eq_getElem hlt]
      exact chQ_put (h.2 _ _ (List.getElem?_eq_getElem hlt)) hn hp.2.2
    · cases hc
  · exact h.2 i c hc
theorem stQ_wrA {n : Int} (hn : 1 ≤ n) : ∀ {ps : List Ver} {cs : List (List Ver)}, stQ n cs → (∀ p ∈ ps, putP p) → stQ n (wrA n cs ps)
  | [], cs, h, _ => h
  | p :: ps, cs, h, hp => stQ_wrA hn (ps := ps) (cs := wrS n cs p) (stQ_wrS h hn (hp p (List.mem_cons_self ..))) fun q hq => hp q (List.mem_cons_of_mem _ hq)
theorem stQ_mono {n m : Int} {cs : List (List Ver)} (h : stQ n cs) (hm : n ≤ m) : stQ m cs := ⟨h.1, fun i c hc => chQ_mono (h.2 i c hc) hm⟩
theorem stQ_drop {n : Int} {cs : List (List Ver)} {ks : List Nat} (h : stQ n cs) (hk : ks.length = 16) : stQ n (List.zipWith (fun (c : List Ver) k => c.drop k) cs ks) := by
  refine ⟨by simp [h.1, hk], fun i c hc => ?_⟩
  rw [List.getElem?_zipWith] at hc
  split at hc
  · rename_i a b h1 h2
    rw [← Option.some.inj hc]
    exact chQ_sub (h.2 i a h1) (List.drop_sublist _ _)
  · cases hc
theorem stQ_new : stQ 0 (List.replicate 16 []) := by
  refine ⟨by simp, fun i c hc => ?_⟩
  have : c = [] := by
    have := List.mem_of_getElem? hc
    exact List.eq_of_mem_replicate this
  subst this
  exact ⟨fun p hp => absurd hp (by simp), List.Pairwise.nil⟩
theorem stQ_ok {n : Int} {cs : List (List Ver)} (h : stQ n cs) (hn : 0 ≤ n ∧ n ≤ 100000) : stOK (cs, n) = true := by
  simp only [stOK, Bool.and_eq_true, decide_eq_true_eq]
  refine ⟨h.1, by simp [inB]; omega, allN_yes fun i hi => ?_⟩
  have hi2 : i < cs.length := by rw [h.1]; exact hi
  have hq := h.2 i _ (List.getElem?_eq_getElem hi2)
  rw [List.getElem?_eq_getElem hi2, Option.getD_some]
  generalize cs[i] = c at hq
  refine allN_yes fun k hk => ?_
  have hm := hq.1 _ (List.getElem_mem hk)
  have hp := List.pairwise_iff_getElem.1 hq.2
  simp only [Bool.and_eq_true, Bool.or_eq_true, decide_eq_true_eq]
  rw [List.getElem?_eq_getElem hk, Option.getD_some]
  refine ⟨by simp [inB]; omega, hm.2.2, ?_⟩
  rcases Nat.eq_zero_or_pos k with e | e
  · exact .inl e
  · right
    rw [List.getElem?_eq_getElem (by omega), Option.getD_some]
    exact hp (k - 1) k (by omega) hk (by omega)
end Go.Proofs.SL
set_option linter.unusedVariables false
set_option linter.unusedSimpArgs false
set_option maxRecDepth 100000
set_option maxHeartbeats 8000000
namespace Go.Proofs.SL
open Go Go.Proofs Go.Proofs.EN Go.Proofs.VT
variable {T : Tabs}
theorem loopOf5 {α β γ δ ε : Type} {step : St → (Ex → St → R) → R} {nm : St → Option St} {K : Ex → St → R} {s : St} (mk : α → β → γ → δ → ε → St) (P : α → β → γ → δ → ε → Prop) (μ : α → β → γ → δ → ε → Nat) (a : α) (b : β) (c : γ) (d : δ) (f : ε) (e : s = mk a b c d f) (h : P a b c d f)
    (hs : ∀ a b c d f (I : St → R), P a b c d f → (∀ a' b' c' d' f', P a' b' c' d' f' → μ a' b' c' d' f' < μ a b c d f → I (mk a' b' c' d' f')) → roundP step nm (mk a b c d f) I K) : LoopP step nm s K :=
  loopOf (fun s : α × β × γ × δ × ε => mk s.1 s.2.1 s.2.2.1 s.2.2.2.1 s.2.2.2.2) (fun s => P s.1 s.2.1 s.2.2.1 s.2.2.2.1 s.2.2.2.2) (fun s => μ s.1 s.2.1 s.2.2.1 s.2.2.2.1 s.2.2.2.2) (a, b, c, d, f) e h fun s I hp rec => hs s.1 s.2.1 s.2.2.1 s.2.2.2.1 s.2.2.2.2 I hp fun a' b' c' d' f' => rec (a', b', c', d', f')
theorem zw_len {B : Int} : ∀ {cs : List (List Ver)} {ks : List Nat}, (∀ c ∈ cs, (c.length : Int) ≤ B) → ∀ c ∈ List.zipWith (fun (c : List Ver) k => c.drop k) cs ks, (c.length : Int) ≤ B
  | [], ks, _, c, hc => by simp at hc
  | a :: r, [], _, c, hc => by simp at hc
  | a :: r, k :: ks, h, c, hc => by
    rw [List.zipWith_cons_cons] at hc
    rcases List.mem_cons.1 hc with rfl | hc
    · have := h a (List.mem_cons_self ..); rw [List.length_drop]; omega
    · exact zw_len (fun c hc => h c (List.mem_cons_of_mem _ hc)) c hc
theorem xNewStore {Kr Kp : C → List Ob → R} (h : Kr (cSto (List.replicate 16 []) 0) []) : Wp T Tryz.prog tt 102 [] [] Kr Kp := by
  refine go (k := 102) (own := false) (cap := .deep) Tryz.func102 (by kernel_rfl) ?_
  (conv => whnf); repeat' (first | ((first | refine bdec ?_ ?_ | refine bnot ?_ ?_ | refine bsel_intro ?_ ?_ | skip) <;> intro hc <;> (try simp (disch := omega) only [nm, dVs_len, dCh_len, dVs_0, dVs_1, dCh_0, dBy_len, dBy_0, Nat.reduceAdd, wrapI] at hc) <;> conv => whnf) | (refine .head _ rfl (by kernel_rfl) ?_; conv => whnf) | (refine And.intro ?_ ?_; (focus ((first | omega | decide | (simp (disch := omega) only [nm, dVs_len, dCh_len, dVs_0, dVs_1, dCh_0, dBy_len, dBy_0, Nat.reduceAdd, wrapI] <;> omega) | (simp [strOf, nm, dVs_len, dCh_len, dVs_0, dVs_1, dCh_0, dBy_len, dBy_0, Nat.reduceAdd] <;> omega) | exact Nat.le_of_ble_eq_true rfl | rfl); done)); conv => whnf) | (rw [vv]; conv => whnf) | (refine NilP.mk fun nb hnb => ?_; conv => whnf))
  refine krC h ?_
  simp only [dCh, List.map_replicate]
  rfl
theorem xForget {cs : List (List Ver)} {now low : Int} {Kr Kp : C → List Ob → R} (hl : cs.length = 16) (hcl : ∀ c ∈ cs, c.length ≤ 1000) (h : ∀ (ks : List Nat) (n : Int), ks.length = 16 → Kr (.tuple [cSto (List.zipWith (fun (c : List Ver) k => c.drop k) cs ks) now, .d (.int .i64 n)]) []) : Wp T Tryz.prog tt 106 [cSto cs now, .d (.int .i64 low)] [] Kr Kp := by
  refine go (k := 106) (own := false) (cap := .deep) Tryz.func106 (by kernel_rfl) ?_
  (conv => whnf); repeat' (first | ((first | refine bdec ?_ ?_ | refine bnot ?_ ?_ | refine bsel_intro ?_ ?_ | skip) <;> intro hc <;> (try simp (disch := omega) only [nm, dVs_len, dCh_len, dVs_0, dVs_1, dCh_0, dBy_len, dBy_0, Nat.reduceAdd, wrapI] at hc) <;> conv => whnf) | (refine .head _ rfl (by kernel_rfl) ?_; conv => whnf) | (refine And.intro ?_ ?_; (focus ((first | omega | decide | (simp (disch := omega) only [nm, dVs_len, dCh_len, dVs_0, dVs_1, dCh_0, dBy_len, dBy_0, Nat.reduceAdd, wrapI] <;> omega) | (simp [strOf, nm, dVs_len, dCh_len, dVs_0, dVs_1, dCh_0, dBy_len, dBy_0, Nat.reduceAdd] <;> omega) | exact Nat.le_of_ble_eq_true rfl | rfl); done)); conv => whnf) | (rw [vv]; conv => whnf) | (refine NilP.mk fun nb hnb => ?_; conv => whnf))
  refine loopOf3 (fun (i : Nat) (m : Int) (ks : List Nat) => ⟨[(1, .d (.int .i64 low)), (2, .ref 0 0), (4, .ref 1 0), (6, .ref 2 0), (7, .d (.int .i64 m)), (8, .d (.int .i64 (i : Int)))], [.box [.d (.list 141 (dCh 143 cs)), .d (.int .i64 now)], .box [.row 3, .d (.int .i64 0)], .box [.row 4, .d (.int .i64 now)], .row 141 .deep 0 [], .row 141 .deep 0 (dCh 143 (List.zipWith (fun c k => c.drop k) cs ks))]⟩) (fun i m ks => i ≤ 16 ∧ ks.length = i ∧ 0 ≤ m ∧ m ≤ 1000 * i) (fun i _ _ => 16 - i) 0 0 [] (by simp [dCh, CK.zero]) ⟨by omega, rfl, by omega, by omega⟩ ?_
  intro i m ks I ⟨hi, hk, hm1, hm2⟩ rec
  obtain ⟨c, hx⟩ : ∃ c, (cs[i]?).getD [] = c := ⟨_, rfl⟩
  have hx' : i < 16 → cs[i]? = some c := fun h => by rw [← hx]; simp [show i < cs.length by omega]
  have hcl' : i < 16 → c.length ≤ 1000 := fun h => hcl c (List.mem_of_getElem? (hx' h))
  have hzl : (List.zipWith (fun (c : List Ver) k => c.drop k) cs ks).length ≤ 16 := by simp; omega
  (conv => whnf); repeat' (first | ((first | refine bdec ?_ ?_ | refine bnot ?_ ?_ | refine bsel_intro ?_ ?_ | skip) <;> intro hc <;> (try simp (disch := omega) only [nm, dVs_len, dCh_len, dVs_0, dVs_1, dCh_0, dBy_len, dBy_0, Nat.reduceAdd, hx, wrapI] at hc) <;> conv => whnf) | (refine .head _ rfl (by kernel_rfl) ?_; conv => whnf) | (refine aheadAtG 106 (by kernel_rfl) (by kernel_rfl) ?_; conv => whnf) | (refine PAnd.mk ?_ ?_ <;> conv => whnf) | exact PTrue.mk | (refine .head _ rfl (by kernel_rfl) ?_; conv => whnf) | (refine And.intro ?_ ?_; (focus ((first | omega | decide | (simp (disch := omega) only [nm, dVs_len, dCh_len, dVs_0, dVs_1, dCh_0, dBy_len, dBy_0, Nat.reduceAdd, hx, wrapI] <;> omega) | (simp [strOf, nm, dVs_len, dCh_len, dVs_0, dVs_1, dCh_0, dBy_len, dBy_0, Nat.reduceAdd, hx] <;> omega) | exact Nat.le_of_ble_eq_true rfl | rfl); done)); conv => whnf) | (rw [vv]; conv => whnf) | (refine NilP.mk fun nb hnb => ?_; conv => whnf))
  · have hlt : i < 16 := by omega
    have hcl' := hcl' hlt
    refine loopOf (fun k : Nat => ⟨[(1, .d (.int .i64 low)), (2, .ref 0 0), (4, .ref 1 0), (6, .ref 2 0), (7, .d (.int .i64 m)), (8, .d (.int .i64 (i : Int))), (9, .d (.list 143 (dVs c))), (10, .d (.int .i64 (k : Int)))], [.box [.d (.list 141 (dCh 143 cs)), .d (.int .i64 now)], .box [.row 3, .d (.int .i64 0)], .box [.row 4, .d (.int .i64 now)], .row 141 .deep 0 [], .row 141 .deep 0 (dCh 143 (List.zipWith (fun c k => c.drop k) cs ks))]⟩) (fun k => k ≤ c.length) (fun k => c.length - k) 0 (by simp only [nm, dVs_len, dCh_len, dVs_0, dVs_1, dCh_0, dBy_len, dBy_0, Nat.reduceAdd, hx]; rfl) (by omega) ?_
    intro k J hkk rec2
    (conv => whnf); repeat' (first | ((first | refine bdec ?_ ?_ | refine bnot ?_ ?_ | refine bsel_intro ?_ ?_ | skip) <;> intro hc <;> (try simp (disch := omega) only [nm, dVs_len, dCh_len, dVs_0, dVs_1, dCh_0, dBy_len, dBy_0, Nat.reduceAdd, hx, wrapI] at hc) <;> conv => whnf) | (refine .head _ rfl (by kernel_rfl) ?_; conv => whnf) | (refine aheadAtG 106 (by kernel_rfl) (by kernel_rfl) ?_; conv => whnf) | (refine PAnd.mk ?_ ?_ <;> conv => whnf) | exact PTrue.mk | (refine .head _ rfl (by kernel_rfl) ?_; conv => whnf) | (refine And.intro ?_ ?_; (focus ((first | omega | decide | (simp (disch := omega) only [nm, dVs_len, dCh_len, dVs_0, dVs_1, dCh_0, dBy_len, dBy_0, Nat.reduceAdd, hx, wrapI] <;> omega) | (simp [strOf, nm, dVs_len, dCh_len, dVs_0, dVs_1, dCh_0, dBy_len, dBy_0, Nat.reduceAdd, hx] <;> omega) | exact Nat.le_of_ble_eq_true rfl | rfl); done)); conv => whnf) | (rw [vv]; conv => whnf) | (refine NilP.mk fun nb hnb => ?_; conv => whnf))
    · refine eqI (rec2 (k + 1) (by omega) (by omega)) ?_
      rw [wrapS (by omega)]
    all_goals
      refine eqI (rec (i + 1) (m + k) (ks ++ [k]) ⟨by omega, by simp; omega, by omega, by omega⟩ (by omega)) ?_
      rw [zw_succ (c := c) (by rw [hk]; exact hx' hlt), wrapS (by omega), wrapI (by omega) (by omega)]
      simp [dCh, dVs, List.map_drop]
      rw [List.take_of_length_le (by simp)]
  · rw [show List.zipWith (fun (c : List Ver) k => c.drop k) cs ks = List.zipWith (fun c k => c.drop k) cs ks from rfl]
    exact h ks m (by omega)
theorem w63 {t : Str} {a s : Int} {Kr Kp : C → List Ob → R} (ht : t.length ≤ 1048576) (hs : okA' 100000 a s) (h : ∀ (cs : List (List Ver)) (now a' s' : Int), stQ now cs → 0 ≤ now → now ≤ 13 → (∀ c ∈ cs, c.length ≤ 60) → stS 10000 a a' s' → Kr (cSto cs now) [oS t a' s']) : Wp T Tryz.prog tt 63 [.ref 0 0] [oS t a s] Kr Kp := by
  refine go (k := 63) (own := false) (cap := .deep) Tryz.func63 (by kernel_rfl) ?_
  (conv => whnf); repeat' (first | ((first | refine bdec ?_ ?_ | refine bnot ?_ ?_ | refine bsel_intro ?_ ?_ | skip) <;> intro hc <;> (try simp (disch := omega) only [nm, dVs_len, dCh_len, dVs_0, dVs_1, dCh_0, dBy_len, dBy_0, Nat.reduceAdd, wrapI] at hc) <;> conv => whnf) | (refine .head _ rfl (by kernel_rfl) ?_; conv => whnf) | (refine aheadAtG 63 (by kernel_rfl) (by kernel_rfl) ?_; conv => whnf) | (refine PAnd.mk ?_ ?_ <;> conv => whnf) | exact PTrue.mk | (refine .head _ rfl (by kernel_rfl) ?_; conv => whnf) | (refine xNewStore ?_; conv => whnf) | (refine w103 ht (by omega) (fun n0 n1 n2 => ?_) <;> conv => whnf) | (refine (fun hq => wpArgs (xs' := [.ref 0 0, .d (.int .i64 (n0 + 4))]) (by rw [wrapI (by omega) (by omega)]) (xnext (by omega) (by omega) hq)) (fun k0 a0 s0 k1 k2 q1 => ?_) <;> conv => whnf) | (refine xnext (by omega) (by omega) (fun k0 a0 s0 k1 k2 q1 => ?_) <;> conv => whnf) | (apply pcall; (focus (intro _ _ hk; first | exact xNewStore hk | exact w103 ht (by omega) (fun n0 n1 n2 => ?_) hk | exact (fun hq => wpArgs (xs' := [.ref 0 0, .d (.int .i64 (n0 + 4))]) (by rw [wrapI (by omega) (by omega)]) (xnext (by omega) (by omega) hq)) (fun k0 a0 s0 k1 k2 q1 => ?_) hk | exact xnext (by omega) (by omega) (fun k0 a0 s0 k1 k2 q1 => ?_) hk)); conv => whnf) | (refine And.intro ?_ ?_; (focus ((first | omega | decide | (simp (disch := omega) only [nm, dVs_len, dCh_len, dVs_0, dVs_1, dCh_0, dBy_len, dBy_0, Nat.reduceAdd, wrapI] <;> omega) | (simp [strOf, nm, dVs_len, dCh_len, dVs_0, dVs_1, dCh_0, dBy_len, dBy_0, Nat.reduceAdd] <;> omega) | exact Nat.le_of_ble_eq_true rfl | rfl); done)); conv => whnf) | (rw [vv]; conv => whnf) | (refine NilP.mk fun nb hnb => ?_; conv => whnf))
  refine loopOf5 (fun (i : Int) (b : Int) (u : Int) (now : Int) (cs : List (List Ver)) => ⟨[(0, .ref 0 0), (2, .ref 1 0), (3, .ref 2 0), (4, .d (.int .i64 i))], [oS t b u, .box [.row 3, .d (.int .i64 0)], .box [.d (.list 141 (dCh 143 cs)), .d (.int .i64 now)], .row 141 .deep 0 []]⟩) (fun i b u now cs => 0 ≤ i ∧ 0 ≤ now ∧ now + i ≤ 13 ∧ 0 ≤ u ∧ u < 2147483648 ∧ a ≤ b ∧ b ≤ a + 3000 - i * 200 ∧ stQ now cs ∧ ∀ c ∈ cs, (c.length : Int) ≤ 4 * now) (fun i _ _ _ _ => i.toNat) k0 a0 s0 0 (List.replicate 16 []) rfl ⟨by omega, by omega, by omega, by omega, by omega, by omega, by omega, stQ_new, fun c hc => by rw [List.eq_of_mem_replicate hc]; simp⟩ ?_
  intro i b u now cs I ⟨g1, g2, g3, g4, g5, g6, g7, g8, g9⟩ rec
  have hcl : ∀ c ∈ cs, c.length ≤ 1000000 := fun c hc => by have := g9 c hc; omega
  have g81 := g8.1
  (conv => whnf); repeat' (first | (have hb0 := b0; refine aheadAtG 63 (by kernel_rfl) (by kernel_rfl) ?_; conv => whnf) | ((first | refine bdec ?_ ?_ | refine bnot ?_ ?_ | refine bsel_intro ?_ ?_ | skip) <;> intro hc <;> (try simp (disch := omega) only [nm, dVs_len, dCh_len, dVs_0, dVs_1, dCh_0, dBy_len, dBy_0, Nat.reduceAdd, wrapI] at hc) <;> conv => whnf) | (refine anyAtG 63 (by kernel_rfl) (by kernel_rfl) ?_; conv => whnf) | (refine PAnd.mk ?_ ?_ <;> conv => whnf) | exact PTrue.mk | (refine .head _ rfl (by kernel_rfl) ?_; conv => whnf) | (refine (fun hq => wpArgs (xs' := [.ref 0 0, .d (.int .i64 ((if ps = [] then now else now + 1) + 1))]) (by rw [wrapI (by split <;> omega) (by split <;> omega)]) (xnext (by omega) (by split <;> omega) hq)) (fun k5 a5 s5 e1 e2 q5 => ?_) <;> conv => whnf) | (refine xForget (by rw [wrA_len]; exact g81) (fun c hc => by have := wrA_lens (B := 52) (fun c hc => by have := g9 c hc; omega) c hc; omega) (fun ks n6 hks => ?_) <;> conv => whnf) | (refine w105 (by omega) (fun ps b1 u1 hp1 hp2 hp3 ver => ?_) <;> conv => whnf) | (refine w104 g8.1 hcl (by omega) ⟨hp2, hp1⟩ ?_; conv => whnf) | (refine xchance (by omega) (by omega) (fun b0 a3 s3 q2 => ?_) <;> conv => whnf) | (refine w107 (by omega) hcl ?_; conv => whnf) | (apply pcall; (focus (intro _ _ hk; first | exact (fun hq => wpArgs (xs' := [.ref 0 0, .d (.int .i64 ((if ps = [] then now else now + 1) + 1))]) (by rw [wrapI (by split <;> omega) (by split <;> omega)]) (xnext (by omega) (by split <;> omega) hq)) (fun k5 a5 s5 e1 e2 q5 => ?_) hk | exact xForget (by rw [wrA_len]; exact g81) (fun c hc => by have := wrA_lens (B := 52) (fun c hc => by have := g9 c hc; omega) c hc; omega) (fun ks n6 hks => ?_) hk | exact w105 (by omega) (fun ps b1 u1 hp1 hp2 hp3 ver => ?_) hk | exact w104 g8.1 hcl (by omega) ⟨hp2, hp1⟩ hk | exact xchance (by omega) (by omega) (fun b0 a3 s3 q2 => ?_) hk | exact w107 (by omega) hcl hk)); conv => whnf) | (refine And.intro ?_ ?_; (focus ((first | omega | decide | (simp (disch := omega) only [nm, dVs_len, dCh_len, dVs_0, dVs_1, dCh_0, dBy_len, dBy_0, Nat.reduceAdd, wrapI] <;> omega) | (simp [strOf, nm, dVs_len, dCh_len, dVs_0, dVs_1, dCh_0, dBy_len, dBy_0, Nat.reduceAdd] <;> omega) | exact Nat.le_of_ble_eq_true rfl | rfl); done)); conv => whnf) | (rw [vv]; conv => whnf) | (refine NilP.mk fun nb hnb => ?_; conv => whnf))
  rotate_right
  · exact h cs now b u g8 g2 (by omega) (fun c hc => by have := g9 c hc; omega) ⟨by omega, by omega, by omega, by omega⟩
  all_goals
    obtain ⟨n2, hn2⟩ : ∃ n2, (if ps = [] then now else now + 1) = n2 := ⟨_, rfl⟩
    have hq : stQ n2 (wrA (now + 1) cs ps) ∧ (∀ c ∈ wrA (now + 1) cs ps, (c.length : Int) ≤ 4 * n2) ∧ now ≤ n2 ∧ n2 ≤ now + 1 := by
      rcases Decidable.em (ps = []) with e | e
      · rw [if_pos e] at hn2; subst e; subst hn2; exact ⟨g8, g9, by omega, by omega⟩
      · rw [if_neg e] at hn2; subst hn2
        refine ⟨stQ_wrA (by omega) (stQ_mono g8 (by omega)) hp1, fun c hc => ?_, by omega, by omega⟩
        have := wrA_lens (B := (4 * now).toNat) (fun c hc => by have := g9 c hc; omega) c hc
        omega
    obtain ⟨q1', q2', q3', q4'⟩ := hq
    rw [hn2] at *
    first
      | (refine eqI (rec (i - 1) a5 s5 n2 (List.zipWith (fun (c : List Ver) k => c.drop k) (wrA (now + 1) cs ps) ks) ⟨by omega, by omega, by omega, by omega, by omega, by omega, by omega, stQ_drop q1' hks, zw_len q2'⟩ (by omega)) ?_
         rw [wrapI (by omega) (by omega)]; done)
      | (refine eqI (rec (i - 1) a3 s3 n2 (wrA (now + 1) cs ps) ⟨by omega, by omega, by omega, by omega, by omega, by omega, by omega, q1', q2'⟩ (by omega)) ?_
         rw [wrapI (by omega) (by omega)]; done)
end Go.Proofs.SL
set_option linter.unusedVariables false
set_option linter.unusedSimpArgs false
set_option maxRecDepth 100000
set_option maxHeartbeats 8000000
namespace Go.Proofs.SL
open Go Go.Proofs Go.Proofs.EN Go.Proofs.VT
variable {T : Tabs}
theorem w23 {t : Str} {Kr Kp : C → List Ob → R} (ht : t.length ≤ 1048576) (h : ∀ (cs : List (List Ver)) (now : Int), stOK (cs, now) = true → cs.length = 16 → (∀ c ∈ cs, c.length ≤ 60) → Kr (cSto cs now) []) : Wp T Tryz.prog tt 23 [.d (.list 5 (dBy t))] [] Kr Kp := by
  refine go (k := 23) (own := false) (cap := .deep) Tryz.func23 (by kernel_rfl) ?_
  (conv => whnf); repeat' (first | ((first | refine bdec ?_ ?_ | refine bnot ?_ ?_ | refine bsel_intro ?_ ?_ | skip) <;> intro hc <;> (try simp (disch := omega) only [nm, dBy_len, dBy_0, Nat.reduceAdd, wrapI] at hc) <;> conv => whnf) | (refine .head _ rfl (by kernel_rfl) ?_; conv => whnf) | (refine w27 (fun s h1 h2 => ?_) <;> conv => whnf) | (refine w63 ht ⟨by omega, by omega, by omega, by omega⟩ (fun cs now a' s' q1 q2 q3 q4 q5 => ?_) <;> conv => whnf) | (apply pcall; (focus (intro _ _ hk; first | exact w27 (fun s h1 h2 => ?_) hk | exact w63 ht ⟨by omega, by omega, by omega, by omega⟩ (fun cs now a' s' q1 q2 q3 q4 q5 => ?_) hk)); conv => whnf) | (refine And.intro ?_ ?_; (focus ((first | omega | decide | (simp (disch := omega) only [nm, dBy_len, dBy_0, Nat.reduceAdd, wrapI] <;> omega) | (simp [strOf, nm, dBy_len, dBy_0, Nat.reduceAdd] <;> omega) | exact Nat.le_of_ble_eq_true rfl | rfl); done)); conv => whnf) | (rw [vv]; conv => whnf) | (refine NilP.mk fun nb hnb => ?_; conv => whnf))
  exact h cs now (stQ_ok q1 (by omega)) q1.1 q4
end Go.Proofs.SL
