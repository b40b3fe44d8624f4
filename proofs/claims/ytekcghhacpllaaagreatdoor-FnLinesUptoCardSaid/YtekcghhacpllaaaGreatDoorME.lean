/- Contracts of functions of this program, by the evaluator EN. No conditions but those that each theorem states. -/
import Derived.Test.YtekcghhacpllaaaGreatDoorLN
import Derived.Test.YtekcghhacpllaaaGreatDoorLK
set_option linter.unusedVariables false
set_option linter.unusedSimpArgs false
set_option maxRecDepth 100000
set_option maxHeartbeats 8000000
namespace Go.Proofs.SL
open Go Go.Proofs Go.Proofs.EN Go.Proofs.VT
variable {T : Tabs}
theorem loopOf6 {α β γ δ ε : Type} {step : St → (Ex → St → R) → R} {nm : St → Option St} {K : Ex → St → R} {s : St} (mk : α → β → γ → δ → ε → St) (P : α → β → γ → δ → ε → Prop) (μ : α → β → γ → δ → ε → Nat) (a : α) (b : β) (c : γ) (d : δ) (f : ε) (e : s = mk a b c d f) (h : P a b c d f)
    (hs : ∀ a b c d f (I : St → R), P a b c d f → (∀ a' b' c' d' f', P a' b' c' d' f' → μ a' b' c' d' f' < μ a b c d f → I (mk a' b' c' d' f')) → roundP step nm (mk a b c d f) I K) : LoopP step nm s K :=
  loopOf (fun s : α × β × γ × δ × ε => mk s.1 s.2.1 s.2.2.1 s.2.2.2.1 s.2.2.2.2) (fun s => P s.1 s.2.1 s.2.2.1 s.2.2.2.1 s.2.2.2.2) (fun s => μ s.1 s.2.1 s.2.2.1 s.2.2.2.1 s.2.2.2.2) (a, b, c, d, f) e h fun s I hp rec => hs s.1 s.2.1 s.2.2.1 s.2.2.2.1 s.2.2.2.2 I hp fun a' b' c' d' f' => rec (a', b', c', d', f')
/-- One of three texts. -/
theorem xpick3 {t : Str} {a s : Int} {u v w : Str} {Kr Kp : C → List Ob → R} (hs : okA' 0 a s) (h1 : ∀ a' s', stS 3 a a' s' → Kr (.d (.str u)) [oS t a' s']) (h2 : ∀ a' s', stS 3 a a' s' → Kr (.d (.str v)) [oS t a' s']) (h3 : ∀ a' s', stS 3 a a' s' → Kr (.d (.str w)) [oS t a' s']) : Wp T Tryz.prog tt 70 [.ref 0 0, .d (.list 9 [[.str u], [.str v], [.str w]])] [oS t a s] Kr Kp := by
  refine w70 (ws := [u, v, w]) ⟨hs.1, by omega, hs.2.2.1, hs.2.2.2⟩ ⟨by simp, by simp⟩ fun x a' s' hw e1 e2 e3 e4 => ?_
  simp only [List.mem_cons, List.not_mem_nil, or_false] at hw
  rcases hw with rfl | rfl | rfl
  · exact h1 _ _ ⟨e1, e2, e3, e4⟩
  · exact h2 _ _ ⟨e1, e2, e3, e4⟩
  · exact h3 _ _ ⟨e1, e2, e3, e4⟩
theorem drop_take1 (tA tD tS : TypeId) (ss : List QSel) : List.drop (Int.toNat 0) (List.take (Int.toNat 1) (dQSels tA tD tS ss)) = dQSels tA tD tS (ss.take 1) := by
  rw [dQSels_map, dQSels_map, List.map_take]; rfl
theorem smL_take {ss : List QSel} (h : smL ss) (n : Nat) : smL (ss.take n) := by
  rw [smL_all] at h ⊢
  exact fun x hx => h x (List.mem_of_mem_take hx)
theorem w161 {t : Str} {kd a s : Int} {Kr Kp : C → List Ob → R} (hs : okA' 10000000 a s) (h : ∀ (ss : List QSel) a' s', smL ss → qCnt ss ≤ 120 → 1 ≤ ss.length → stS 12000 a a' s' → Kr (.d (dSS ss)) [oS t a' s']) : Wp T Tryz.prog tt 161 [.ref 0 0, .d (.int .i64 kd)] [oS t a s] Kr Kp := by
  have eB : bB 2 = 3200 := by decide
  have eQ : bQ 2 = 39 := by decide
  refine go (k := 161) (own := false) (cap := .deep) Tryz.func161 (by kernel_rfl) ?_
  (conv => whnf); repeat' (first | ((first | refine bdec ?_ ?_ | refine bnot ?_ ?_ | refine bsel_intro ?_ ?_ | skip) <;> intro hc <;> (try simp (disch := omega) only [nm, dQArgs_len, dQDirs_len, dQSels_len, dQDefs_len, dBy_len, dBy_0, Nat.reduceAdd, wrapI] at hc) <;> conv => whnf) | (refine .head _ rfl (by kernel_rfl) ?_; conv => whnf) | (refine .head _ rfl (by kernel_rfl) ?_; conv => whnf) | (refine xnext (by omega) (by omega) (fun k0 a0 s0 k1 k2 q1 => ?_) <;> conv => whnf) | (apply pcall; (focus (intro _ _ hk; first | exact xnext (by omega) (by omega) (fun k0 a0 s0 k1 k2 q1 => ?_) hk)); conv => whnf) | (refine And.intro ?_ ?_; (focus ((first | omega | decide | (simp (disch := omega) only [nm, dQArgs_len, dQDirs_len, dQSels_len, dQDefs_len, dBy_len, dBy_0, Nat.reduceAdd, wrapI] <;> omega) | (simp [strOf, nm, dQArgs_len, dQDirs_len, dQSels_len, dQDefs_len, dBy_len, dBy_0, Nat.reduceAdd] <;> omega) | exact Nat.le_of_ble_eq_true rfl | rfl); done)); conv => whnf) | (rw [vv]; conv => whnf) | (refine NilP.mk fun nb hnb => ?_; conv => whnf))
  refine loopOf6 (fun (i : Int) (b : Int) (u : Int) (md : Bool) (ss : List QSel) => ⟨[(0, .ref 0 0), (1, .d (.int .i64 kd)), (5, .row 1), (6, .d (.int .i64 i))], [oS t b u, .row 201 (mdI (if md then 1 else 0)) 0 (dQSels 222 237 201 ss)]⟩) (fun i b u md ss => 0 ≤ i ∧ i ≤ 3 ∧ 0 ≤ u ∧ u < 2147483648 ∧ a ≤ b ∧ b ≤ a + 3 + 3 * 3300 - i * 3300 ∧ smL ss ∧ (qCnt ss : Int) ≤ 120 - i * 40 ∧ 1 ≤ ss.length + i ∧ ss.length + i ≤ 3) (fun i _ _ _ _ => i.toNat) (1 + k0) a0 s0 false [] ?_ ⟨?_, ?_, ?_, ?_, ?_, ?_, ?_, ?_, ?_, ?_⟩ ?_
  · rw [wrapI (by omega) (by omega)]; simp [dQSels, mdI]
  iterate 6 omega
  · rw [smL]; trivial
  · rw [qCnt_nil]; omega
  · simp; omega
  · simp; omega
  intro i b u md ss I ⟨g1, g2, g3, g4, g5, g6, g7, g8, g9, g10⟩ rec
  have key : 0 < i → ∀ (md' : Bool) (x : QSel) (b' u' : Int), smL [x] → qCnt x.sels ≤ 39 → b ≤ b' → b' ≤ b + 3300 → 0 ≤ u' → u' < 2147483648 → I ⟨[(0, .ref 0 0), (1, .d (.int .i64 kd)), (5, .row 1), (6, .d (.int .i64 (IntKind.i64.wrap (i - 1))))], [oS t b' u', .row 201 (mdI (if md' then 1 else 0)) 0 (dQSels 222 237 201 ss ++ [[.int .i64 x.kind, .str x.alias, .str x.name, .list 222 (dQArgs x.args), .list 237 (dQDirs x.dirs), .list 201 (dQSels 222 237 201 x.sels)]])]⟩ := fun hi md' x b' u' e1 e2 e3 e4 e5 e6 => by
    refine eqI (rec (i - 1) b' u' md' (ss ++ [x]) ⟨by omega, by omega, by omega, by omega, by omega, by omega, smL_append.2 ⟨g7, e1⟩, ?_, ?_, ?_⟩ (by omega)) ?_
    · rw [qCnt_append, qCnt_cons, qCnt_nil]; omega
    · simp only [List.length_append, List.length_cons, List.length_nil]; omega
    · simp only [List.length_append, List.length_cons, List.length_nil]; omega
    · rw [wrapI (by omega) (by omega)]; simp [dQSels_map, dQSel_eq]
  rcases mdI_or (if md then 1 else 0) with hm | hm
  all_goals
    simp only [hm]
    clear rec
    (conv => whnf); repeat' (first | ((first | refine bdec ?_ ?_ | refine bnot ?_ ?_ | refine bsel_intro ?_ ?_ | skip) <;> intro hc <;> (try simp (disch := omega) only [nm, dQArgs_len, dQDirs_len, dQSels_len, dQDefs_len, dBy_len, dBy_0, Nat.reduceAdd, wrapI] at hc) <;> conv => whnf) | (refine .head _ rfl (by kernel_rfl) ?_; conv => whnf) | (refine aheadAtB 161 (by kernel_rfl) (by kernel_rfl) ?_; conv => whnf) | (refine PAnd.mk ?_ ?_ <;> conv => whnf) | exact PTrue.mk | (refine .head _ rfl (by kernel_rfl) ?_; conv => whnf) | (refine w50 ?_; conv => whnf) | (refine xpick3 (by omega) (fun a3 s3 q2 => ?_) (fun a3 s3 q2 => ?_) (fun a3 s3 q2 => ?_) <;> conv => whnf) | (refine xchance (by omega) (by omega) (fun b0 a3 s3 q2 => ?_) <;> conv => whnf) | (refine xnext (by omega) (by omega) (fun k0 a0 s0 k1 k2 q1 => ?_) <;> conv => whnf) | (refine xpick (by omega) (by rfl) (by decide) (by rfl) (fun w0 a3 s3 hw0 q2 => ?_) <;> conv => whnf) | (refine w185 (by omega) (fun di a4 s4 hd4 hl4 q4 ver4 => ?_) <;> conv => whnf) | (refine w184 (by omega) (fun vk vn vu a5 s5 hv5 q5 => ?_) <;> conv => whnf) | (refine (fun hq => wpArgs (xs' := [.ref 0 0, .d (.int .i64 ((2 : Nat) : Int))]) rfl (w163 2 (by omega) (by omega) hq)) (fun sub a6 s6 hs6 hq6 hl6 q6 ver6 => ?_) <;> conv => whnf) | (apply pcall; (focus (intro _ _ hk; first | exact w50 hk | exact xpick3 (by omega) (fun a3 s3 q2 => ?_) (fun a3 s3 q2 => ?_) (fun a3 s3 q2 => ?_) hk | exact xchance (by omega) (by omega) (fun b0 a3 s3 q2 => ?_) hk | exact xnext (by omega) (by omega) (fun k0 a0 s0 k1 k2 q1 => ?_) hk | exact xpick (by omega) (by rfl) (by decide) (by rfl) (fun w0 a3 s3 hw0 q2 => ?_) hk | exact w185 (by omega) (fun di a4 s4 hd4 hl4 q4 ver4 => ?_) hk | exact w184 (by omega) (fun vk vn vu a5 s5 hv5 q5 => ?_) hk | exact (fun hq => wpArgs (xs' := [.ref 0 0, .d (.int .i64 ((2 : Nat) : Int))]) rfl (w163 2 (by omega) (by omega) hq)) (fun sub a6 s6 hs6 hq6 hl6 q6 ver6 => ?_) hk)); conv => whnf) | (refine And.intro ?_ ?_; (focus ((first | omega | decide | (simp (disch := omega) only [nm, dQArgs_len, dQDirs_len, dQSels_len, dQDefs_len, dBy_len, dBy_0, Nat.reduceAdd, wrapI] <;> omega) | (simp [strOf, nm, dQArgs_len, dQDirs_len, dQSels_len, dQDefs_len, dBy_len, dBy_0, Nat.reduceAdd] <;> omega) | exact Nat.le_of_ble_eq_true rfl | rfl); done)); conv => whnf) | (rw [vv]; conv => whnf) | (refine NilP.mk fun nb hnb => ?_; conv => whnf))
    all_goals try rw [drop_take1]
    all_goals first
      | (refine h ss _ _ g7 ?_ ?_ ?_ <;> omega)
      | (refine key (by omega) false ⟨_, _, _, [], di, []⟩ _ _ ?_ ?_ ?_ ?_ ?_ ?_ <;> (first
          | omega
          | (refine sm_sel ?_ ?_ ?_ ?_ ?_ ?_ ?_ <;> first | assumption | (simp; done) | (rw [smL]; trivial) | exact smL_take hs6 _ | (intro a ha; simp only [List.mem_cons, List.not_mem_nil, or_false] at ha; rcases ha with rfl | rfl <;> exact ⟨Nat.le_of_ble_eq_true rfl, by assumption⟩) | (intro a ha; simp only [List.mem_cons, List.not_mem_nil, or_false] at ha; rcases ha with rfl; exact ⟨Nat.le_of_ble_eq_true rfl, by assumption⟩) | exact Nat.le_of_ble_eq_true rfl)
          | (show qCnt [] ≤ _; rw [qCnt_nil]; omega)
          | (show qCnt sub ≤ _; omega) | (show qCnt (sub.take 1) ≤ _; have := qCnt_take_le (ss := sub) (i := 1); omega)))
      | (refine key (by omega) false ⟨_, _, _, [], di, sub⟩ _ _ ?_ ?_ ?_ ?_ ?_ ?_ <;> (first
          | omega
          | (refine sm_sel ?_ ?_ ?_ ?_ ?_ ?_ ?_ <;> first | assumption | (simp; done) | (rw [smL]; trivial) | exact smL_take hs6 _ | (intro a ha; simp only [List.mem_cons, List.not_mem_nil, or_false] at ha; rcases ha with rfl | rfl <;> exact ⟨Nat.le_of_ble_eq_true rfl, by assumption⟩) | (intro a ha; simp only [List.mem_cons, List.not_mem_nil, or_false] at ha; rcases ha with rfl; exact ⟨Nat.le_of_ble_eq_true rfl, by assumption⟩) | exact Nat.le_of_ble_eq_true rfl)
          | (show qCnt [] ≤ _; rw [qCnt_nil]; omega)
          | (show qCnt sub ≤ _; omega) | (show qCnt (sub.take 1) ≤ _; have := qCnt_take_le (ss := sub) (i := 1); omega)))
      | (refine key (by omega) false ⟨_, _, _, [], di, (sub.take 1)⟩ _ _ ?_ ?_ ?_ ?_ ?_ ?_ <;> (first
          | omega
          | (refine sm_sel ?_ ?_ ?_ ?_ ?_ ?_ ?_ <;> first | assumption | (simp; done) | (rw [smL]; trivial) | exact smL_take hs6 _ | (intro a ha; simp only [List.mem_cons, List.not_mem_nil, or_false] at ha; rcases ha with rfl | rfl <;> exact ⟨Nat.le_of_ble_eq_true rfl, by assumption⟩) | (intro a ha; simp only [List.mem_cons, List.not_mem_nil, or_false] at ha; rcases ha with rfl; exact ⟨Nat.le_of_ble_eq_true rfl, by assumption⟩) | exact Nat.le_of_ble_eq_true rfl)
          | (show qCnt [] ≤ _; rw [qCnt_nil]; omega)
          | (show qCnt sub ≤ _; omega) | (show qCnt (sub.take 1) ≤ _; have := qCnt_take_le (ss := sub) (i := 1); omega)))
      | (refine key (by omega) false ⟨_, _, _, [(_, _, _, _)], di, []⟩ _ _ ?_ ?_ ?_ ?_ ?_ ?_ <;> (first
          | omega
          | (refine sm_sel ?_ ?_ ?_ ?_ ?_ ?_ ?_ <;> first | assumption | (simp; done) | (rw [smL]; trivial) | exact smL_take hs6 _ | (intro a ha; simp only [List.mem_cons, List.not_mem_nil, or_false] at ha; rcases ha with rfl | rfl <;> exact ⟨Nat.le_of_ble_eq_true rfl, by assumption⟩) | (intro a ha; simp only [List.mem_cons, List.not_mem_nil, or_false] at ha; rcases ha with rfl; exact ⟨Nat.le_of_ble_eq_true rfl, by assumption⟩) | exact Nat.le_of_ble_eq_true rfl)
          | (show qCnt [] ≤ _; rw [qCnt_nil]; omega)
          | (show qCnt sub ≤ _; omega) | (show qCnt (sub.take 1) ≤ _; have := qCnt_take_le (ss := sub) (i := 1); omega)))
      | (refine key (by omega) false ⟨_, _, _, [(_, _, _, _)], di, sub⟩ _ _ ?_ ?_ ?_ ?_ ?_ ?_ <;> (first
          | omega
          | (refine sm_sel ?_ ?_ ?_ ?_ ?_ ?_ ?_ <;> first | assumption | (simp; done) | (rw [smL]; trivial) | exact smL_take hs6 _ | (intro a ha; simp only [List.mem_cons, List.not_mem_nil, or_false] at ha; rcases ha with rfl | rfl <;> exact ⟨Nat.le_of_ble_eq_true rfl, by assumption⟩) | (intro a ha; simp only [List.mem_cons, List.not_mem_nil, or_false] at ha; rcases ha with rfl; exact ⟨Nat.le_of_ble_eq_true rfl, by assumption⟩) | exact Nat.le_of_ble_eq_true rfl)
          | (show qCnt [] ≤ _; rw [qCnt_nil]; omega)
          | (show qCnt sub ≤ _; omega) | (show qCnt (sub.take 1) ≤ _; have := qCnt_take_le (ss := sub) (i := 1); omega)))
      | (refine key (by omega) false ⟨_, _, _, [(_, _, _, _)], di, (sub.take 1)⟩ _ _ ?_ ?_ ?_ ?_ ?_ ?_ <;> (first
          | omega
          | (refine sm_sel ?_ ?_ ?_ ?_ ?_ ?_ ?_ <;> first | assumption | (simp; done) | (rw [smL]; trivial) | exact smL_take hs6 _ | (intro a ha; simp only [List.mem_cons, List.not_mem_nil, or_false] at ha; rcases ha with rfl | rfl <;> exact ⟨Nat.le_of_ble_eq_true rfl, by assumption⟩) | (intro a ha; simp only [List.mem_cons, List.not_mem_nil, or_false] at ha; rcases ha with rfl; exact ⟨Nat.le_of_ble_eq_true rfl, by assumption⟩) | exact Nat.le_of_ble_eq_true rfl)
          | (show qCnt [] ≤ _; rw [qCnt_nil]; omega)
          | (show qCnt sub ≤ _; omega) | (show qCnt (sub.take 1) ≤ _; have := qCnt_take_le (ss := sub) (i := 1); omega)))
      | (refine key (by omega) false ⟨_, _, _, [(_, _, _, _), (_, _, _, _)], di, []⟩ _ _ ?_ ?_ ?_ ?_ ?_ ?_ <;> (first
          | omega
          | (refine sm_sel ?_ ?_ ?_ ?_ ?_ ?_ ?_ <;> first | assumption | (simp; done) | (rw [smL]; trivial) | exact smL_take hs6 _ | (intro a ha; simp only [List.mem_cons, List.not_mem_nil, or_false] at ha; rcases ha with rfl | rfl <;> exact ⟨Nat.le_of_ble_eq_true rfl, by assumption⟩) | (intro a ha; simp only [List.mem_cons, List.not_mem_nil, or_false] at ha; rcases ha with rfl; exact ⟨Nat.le_of_ble_eq_true rfl, by assumption⟩) | exact Nat.le_of_ble_eq_true rfl)
          | (show qCnt [] ≤ _; rw [qCnt_nil]; omega)
          | (show qCnt sub ≤ _; omega) | (show qCnt (sub.take 1) ≤ _; have := qCnt_take_le (ss := sub) (i := 1); omega)))
      | (refine key (by omega) false ⟨_, _, _, [(_, _, _, _), (_, _, _, _)], di, sub⟩ _ _ ?_ ?_ ?_ ?_ ?_ ?_ <;> (first
          | omega
          | (refine sm_sel ?_ ?_ ?_ ?_ ?_ ?_ ?_ <;> first | assumption | (simp; done) | (rw [smL]; trivial) | exact smL_take hs6 _ | (intro a ha; simp only [List.mem_cons, List.not_mem_nil, or_false] at ha; rcases ha with rfl | rfl <;> exact ⟨Nat.le_of_ble_eq_true rfl, by assumption⟩) | (intro a ha; simp only [List.mem_cons, List.not_mem_nil, or_false] at ha; rcases ha with rfl; exact ⟨Nat.le_of_ble_eq_true rfl, by assumption⟩) | exact Nat.le_of_ble_eq_true rfl)
          | (show qCnt [] ≤ _; rw [qCnt_nil]; omega)
          | (show qCnt sub ≤ _; omega) | (show qCnt (sub.take 1) ≤ _; have := qCnt_take_le (ss := sub) (i := 1); omega)))
      | (refine key (by omega) false ⟨_, _, _, [(_, _, _, _), (_, _, _, _)], di, (sub.take 1)⟩ _ _ ?_ ?_ ?_ ?_ ?_ ?_ <;> (first
          | omega
          | (refine sm_sel ?_ ?_ ?_ ?_ ?_ ?_ ?_ <;> first | assumption | (simp; done) | (rw [smL]; trivial) | exact smL_take hs6 _ | (intro a ha; simp only [List.mem_cons, List.not_mem_nil, or_false] at ha; rcases ha with rfl | rfl <;> exact ⟨Nat.le_of_ble_eq_true rfl, by assumption⟩) | (intro a ha; simp only [List.mem_cons, List.not_mem_nil, or_false] at ha; rcases ha with rfl; exact ⟨Nat.le_of_ble_eq_true rfl, by assumption⟩) | exact Nat.le_of_ble_eq_true rfl)
          | (show qCnt [] ≤ _; rw [qCnt_nil]; omega)
          | (show qCnt sub ≤ _; omega) | (show qCnt (sub.take 1) ≤ _; have := qCnt_take_le (ss := sub) (i := 1); omega)))
      | (refine key (by omega) true ⟨_, _, _, [], di, []⟩ _ _ ?_ ?_ ?_ ?_ ?_ ?_ <;> (first
          | omega
          | (refine sm_sel ?_ ?_ ?_ ?_ ?_ ?_ ?_ <;> first | assumption | (simp; done) | (rw [smL]; trivial) | exact smL_take hs6 _ | (intro a ha; simp only [List.mem_cons, List.not_mem_nil, or_false] at ha; rcases ha with rfl | rfl <;> exact ⟨Nat.le_of_ble_eq_true rfl, by assumption⟩) | (intro a ha; simp only [List.mem_cons, List.not_mem_nil, or_false] at ha; rcases ha with rfl; exact ⟨Nat.le_of_ble_eq_true rfl, by assumption⟩) | exact Nat.le_of_ble_eq_true rfl)
          | (show qCnt [] ≤ _; rw [qCnt_nil]; omega)
          | (show qCnt sub ≤ _; omega) | (show qCnt (sub.take 1) ≤ _; have := qCnt_take_le (ss := sub) (i := 1); omega)))
      | (refine key (by omega) true ⟨_, _, _, [], di, sub⟩ _ _ ?_ ?_ ?_ ?_ ?_ ?_ <;> (first
          | omega
          | (refine sm_sel ?_ ?_ ?_ ?_ ?_ ?_ ?_ <;> first | assumption | (simp; done) | (rw [smL]; trivial) | exact smL_take hs6 _ | (intro a ha; simp only [List.mem_cons, List.not_mem_nil, or_false] at ha; rcases ha with rfl | rfl <;> exact ⟨Nat.le_of_ble_eq_true rfl, by assumption⟩) | (intro a ha; simp only [List.mem_cons, List.not_mem_nil, or_false] at ha; rcases ha with rfl; exact ⟨Nat.le_of_ble_eq_true rfl, by assumption⟩) | exact Nat.le_of_ble_eq_true rfl)
          | (show qCnt [] ≤ _; rw [qCnt_nil]; omega)
          | (show qCnt sub ≤ _; omega) | (show qCnt (sub.take 1) ≤ _; have := qCnt_take_le (ss := sub) (i := 1); omega)))
      | (refine key (by omega) true ⟨_, _, _, [], di, (sub.take 1)⟩ _ _ ?_ ?_ ?_ ?_ ?_ ?_ <;> (first
          | omega
          | (refine sm_sel ?_ ?_ ?_ ?_ ?_ ?_ ?_ <;> first | assumption | (simp; done) | (rw [smL]; trivial) | exact smL_take hs6 _ | (intro a ha; simp only [List.mem_cons, List.not_mem_nil, or_false] at ha; rcases ha with rfl | rfl <;> exact ⟨Nat.le_of_ble_eq_true rfl, by assumption⟩) | (intro a ha; simp only [List.mem_cons, List.not_mem_nil, or_false] at ha; rcases ha with rfl; exact ⟨Nat.le_of_ble_eq_true rfl, by assumption⟩) | exact Nat.le_of_ble_eq_true rfl)
          | (show qCnt [] ≤ _; rw [qCnt_nil]; omega)
          | (show qCnt sub ≤ _; omega) | (show qCnt (sub.take 1) ≤ _; have := qCnt_take_le (ss := sub) (i := 1); omega)))
      | (refine key (by omega) true ⟨_, _, _, [(_, _, _, _)], di, []⟩ _ _ ?_ ?_ ?_ ?_ ?_ ?_ <;> (first
          | omega
          | (refine sm_sel ?_ ?_ ?_ ?_ ?_ ?_ ?_ <;> first | assumption | (simp; done) | (rw [smL]; trivial) | exact smL_take hs6 _ | (intro a ha; simp only [List.mem_cons, List.not_mem_nil, or_false] at ha; rcases ha with rfl | rfl <;> exact ⟨Nat.le_of_ble_eq_true rfl, by assumption⟩) | (intro a ha; simp only [List.mem_cons, List.not_mem_nil, or_false] at ha; rcases ha with rfl; exact ⟨Nat.le_of_ble_eq_true rfl, by assumption⟩) | exact Nat.le_of_ble_eq_true rfl)
          | (show qCnt [] ≤ _; rw [qCnt_nil]; omega)
          | (show qCnt sub ≤ _; omega) | (show qCnt (sub.take 1) ≤ _; have := qCnt_take_le (ss := sub) (i := 1); omega)))
      | (refine key (by omega) true ⟨_, _, _, [(_, _, _, _)], di, sub⟩ _ _ ?_ ?_ ?_ ?_ ?_ ?_ <;> (first
          | omega
          | (refine sm_sel ?_ ?_ ?_ ?_ ?_ ?_ ?_ <;> first | assumption | (simp; done) | (rw [smL]; trivial) | exact smL_take hs6 _ | (intro a ha; simp only [List.mem_cons, List.not_mem_nil, or_false] at ha; rcases ha with rfl | rfl <;> exact ⟨Nat.le_of_ble_eq_true rfl, by assumption⟩) | (intro a ha; simp only [List.mem_cons, List.not_mem_nil, or_false] at ha; rcases ha with rfl; exact ⟨Nat.le_of_ble_eq_true rfl, by assumption⟩) | exact Nat.le_of_ble_eq_true rfl)
          | (show qCnt [] ≤ _; rw [qCnt_nil]; omega)
          | (show qCnt sub ≤ _; omega) | (show qCnt (sub.take 1) ≤ _; have := qCnt_take_le (ss := sub) (i := 1); omega)))
      | (refine key (by omega) true ⟨_, _, _, [(_, _, _, _)], di, (sub.take 1)⟩ _ _ ?_ ?_ ?_ ?_ ?_ ?_ <;> (first
          | omega
          | (refine sm_sel ?_ ?_ ?_ ?_ ?_ ?_ ?_ <;> first | assumption | (simp; done) | (rw [smL]; trivial) | exact smL_take hs6 _ | (intro a ha; simp only [List.mem_cons, List.not_mem_nil, or_false] at ha; rcases ha with rfl | rfl <;> exact ⟨Nat.le_of_ble_eq_true rfl, by assumption⟩) | (intro a ha; simp only [List.mem_cons, List.not_mem_nil, or_false] at ha; rcases ha with rfl; exact ⟨Nat.le_of_ble_eq_true rfl, by assumption⟩) | exact Nat.le_of_ble_eq_true rfl)
          | (show qCnt [] ≤ _; rw [qCnt_nil]; omega)
          | (show qCnt sub ≤ _; omega) | (show qCnt (sub.take 1) ≤ _; have := qCnt_take_le (ss := sub) (i := 1); omega)))
      | (refine key (by omega) true ⟨_, _, _, [(_, _, _, _), (_, _, _, _)], di, []⟩ _ _ ?_ ?_ ?_ ?_ ?_ ?_ <;> (first
          | omega
          | (refine sm_sel ?_ ?_ ?_ ?_ ?_ ?_ ?_ <;> first | assumption | (simp; done) | (rw [smL]; trivial) | exact smL_take hs6 _ | (intro a ha; simp only [List.mem_cons, List.not_mem_nil, or_false] at ha; rcases ha with rfl | rfl <;> exact ⟨Nat.le_of_ble_eq_true rfl, by assumption⟩) | (intro a ha; simp only [List.mem_cons, List.not_mem_nil, or_false] at ha; rcases ha with rfl; exact ⟨Nat.le_of_ble_eq_true rfl, by assumption⟩) | exact Nat.le_of_ble_eq_true rfl)
          | (show qCnt [] ≤ _; rw [qCnt_nil]; omega)
          | (show qCnt sub ≤ _; omega) | (show qCnt (sub.take 1) ≤ _; have := qCnt_take_le (ss := sub) (i := 1); omega)))
      | (refine key (by omega) true ⟨_, _, _, [(_, _, _, _), (_, _, _, _)], di, sub⟩ _ _ ?_ ?_ ?_ ?_ ?_ ?_ <;> (first
          | omega
          | (refine sm_sel ?_ ?_ ?_ ?_ ?_ ?_ ?_ <;> first | assumption | (simp; done) | (rw [smL]; trivial) | exact smL_take hs6 _ | (intro a ha; simp only [List.mem_cons, List.not_mem_nil, or_false] at ha; rcases ha with rfl | rfl <;> exact ⟨Nat.le_of_ble_eq_true rfl, by assumption⟩) | (intro a ha; simp only [List.mem_cons, List.not_mem_nil, or_false] at ha; rcases ha with rfl; exact ⟨Nat.le_of_ble_eq_true rfl, by assumption⟩) | exact Nat.le_of_ble_eq_true rfl)
          | (show qCnt [] ≤ _; rw [qCnt_nil]; omega)
          | (show qCnt sub ≤ _; omega) | (show qCnt (sub.take 1) ≤ _; have := qCnt_take_le (ss := sub) (i := 1); omega)))
      | (refine key (by omega) true ⟨_, _, _, [(_, _, _, _), (_, _, _, _)], di, (sub.take 1)⟩ _ _ ?_ ?_ ?_ ?_ ?_ ?_ <;> (first
          | omega
          | (refine sm_sel ?_ ?_ ?_ ?_ ?_ ?_ ?_ <;> first | assumption | (simp; done) | (rw [smL]; trivial) | exact smL_take hs6 _ | (intro a ha; simp only [List.mem_cons, List.not_mem_nil, or_false] at ha; rcases ha with rfl | rfl <;> exact ⟨Nat.le_of_ble_eq_true rfl, by assumption⟩) | (intro a ha; simp only [List.mem_cons, List.not_mem_nil, or_false] at ha; rcases ha with rfl; exact ⟨Nat.le_of_ble_eq_true rfl, by assumption⟩) | exact Nat.le_of_ble_eq_true rfl)
          | (show qCnt [] ≤ _; rw [qCnt_nil]; omega)
          | (show qCnt sub ≤ _; omega) | (show qCnt (sub.take 1) ≤ _; have := qCnt_take_le (ss := sub) (i := 1); omega)))
end Go.Proofs.SL
