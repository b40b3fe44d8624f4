/- Contracts of functions of this program, by the evaluator EN. No conditions but those that each theorem states. -/
import Derived.Test.YtekcghhacpllaaaGreatDoorSD
set_option linter.unusedVariables false
set_option linter.unusedSimpArgs false
set_option maxRecDepth 100000
set_option maxHeartbeats 8000000
namespace Go.Proofs.SL
open Go Go.Proofs Go.Proofs.EN Go.Proofs.VT
variable {T : Tabs}
/-! ### The lines of a store -/
def cNode : Str := [110, 111, 100, 101, 32]
def cValue : Str := [32, 118, 97, 108, 117, 101, 32]
def cNext : Str := [32, 110, 101, 120, 116, 32]
def cNow : Str := [110, 111, 119, 32]
def cVers : Str := [32, 118, 101, 114, 115, 105, 111, 110, 115, 32]
def nodeL (i : Nat) (v n : Int) : List Str :=
  if 0 < n then [cNode ++ Lib.itoa i ++ cValue ++ Lib.itoa v ++ cNext ++ Lib.itoa (n - 1)] else if v = 0 then [] else [cNode ++ Lib.itoa i ++ cValue ++ Lib.itoa v]
def stL (cs : List (List Ver)) (now : Int) (i : Nat) : List Str := (List.range i).flatMap fun i => nodeL i (rdAt ((cs[2 * i]?).getD []) now) (rdAt ((cs[2 * i + 1]?).getD []) now)
def stLines (cs : List (List Ver)) (now : Int) : List Str := stL cs now 8 ++ [cNow ++ Lib.itoa now ++ cVers ++ Lib.itoa (szCh cs)]
theorem stL_succ (cs : List (List Ver)) (now : Int) (i : Nat) : stL cs now (i + 1) = stL cs now i ++ nodeL i (rdAt ((cs[2 * i]?).getD []) now) (rdAt ((cs[2 * i + 1]?).getD []) now) := by
  simp [stL, List.range_succ]
theorem stL_len (cs : List (List Ver)) (now : Int) (i : Nat) : (stL cs now i).length ≤ i := by
  induction i with
  | zero => simp [stL]
  | succ i ih =>
    rw [stL_succ, List.length_append]
    have : (nodeL i (rdAt ((cs[2 * i]?).getD []) now) (rdAt ((cs[2 * i + 1]?).getD []) now)).length ≤ 1 := by
      simp only [nodeL]; split
      · simp
      · split <;> simp
    omega
theorem rdAt_of {P : Int → Prop} {c : List Ver} {ts : Int} (h0 : P 0) (h : ∀ x ∈ c, P x.2) : P (rdAt c ts) := by
  have key : ∀ (l : List Ver) (v : Int), P v → (∀ x ∈ l, P x.2) → P (l.foldl (fun v x => if x.1 ≤ ts then x.2 else v) v) := by
    intro l
    induction l with
    | nil => intro v hv _; exact hv
    | cons x l ih =>
      intro v hv hl
      refine ih _ ?_ fun y hy => hl y (List.mem_cons_of_mem _ hy)
      show P (if x.1 ≤ ts then x.2 else v)
      split
      · exact hl x (List.mem_cons_self ..)
      · exact hv
  exact key c 0 h0 h
theorem allN_get {n : Nat} {f : Nat → Bool} (h : allN n f = true) {j : Nat} (hj : j < n) : f j = true := by
  rw [allN, List.all_eq_true] at h
  exact h j (by simpa using hj)
theorem stOK_len {cs : List (List Ver)} {now : Int} (h : stOK (cs, now) = true) : cs.length = 16 := by
  simp [stOK] at h; exact h.1
theorem stOK_now {cs : List (List Ver)} {now : Int} (h : stOK (cs, now) = true) : 0 ≤ now ∧ now ≤ 100000 := by
  simp [stOK, inB] at h; exact h.2.1
theorem stOK_val {cs : List (List Ver)} {now : Int} (h : stOK (cs, now) = true) {k : Nat} (hk : k < 16) (ts : Int) : valK k (rdAt ((cs[k]?).getD []) ts) = true := by
  simp only [stOK, Bool.and_eq_true, decide_eq_true_eq] at h
  have h2 : chOK now k ((cs[k]?).getD []) = true := allN_get h.2.2 hk
  refine rdAt_of (P := fun v => valK k v = true) (by simp only [valK, inB]; split <;> simp) fun x hx => ?_
  obtain ⟨j, hj, rfl⟩ := List.getElem_of_mem hx
  have h3 := allN_get h2 hj
  simp only [Bool.and_eq_true] at h3
  simpa [hj] using h3.2.1
theorem even_val {cs : List (List Ver)} {now : Int} (h : stOK (cs, now) = true) {i : Nat} (hi : i < 8) (ts : Int) : -2147483648 ≤ rdAt ((cs[2 * i]?).getD []) ts ∧ rdAt ((cs[2 * i]?).getD []) ts ≤ 2147483647 := by
  have := stOK_val h (k := 2 * i) (by omega) ts
  rw [valK, if_neg (by omega), inB_of] at this
  exact this
theorem odd_val {cs : List (List Ver)} {now : Int} (h : stOK (cs, now) = true) {i : Nat} (hi : i < 8) (ts : Int) : 0 ≤ rdAt ((cs[2 * i + 1]?).getD []) ts ∧ rdAt ((cs[2 * i + 1]?).getD []) ts ≤ 8 := by
  have := stOK_val h (k := 2 * i + 1) (by omega) ts
  rw [valK, if_pos (by omega), inB_of] at this
  exact this
theorem w67 {cs : List (List Ver)} {now : Int} {Kr Kp : C → List Ob → R} (hok : stOK (cs, now) = true) (hs : szCh cs ≤ 4294967296) (h : ∀ ver, Kr (.row 0) [.row 9 .deep ver (dStr (stLines cs now))]) : Wp T Tryz.prog tt 67 [.agg [.d (.list 141 (dCh 143 cs)), .d (.int .i64 now)]] [] Kr Kp := by
  have hcl := stOK_len hok
  have hnow := stOK_now hok
  refine go (k := 67) (own := true) (cap := .deep) Tryz.func67 (by kernel_rfl) ?_
  (conv => whnf); repeat' (first | ((first | refine bdec ?_ ?_ | refine bnot ?_ ?_ | refine bsel_intro ?_ ?_ | skip) <;> intro hc <;> (try simp (disch := omega) only [List.getD_eq_getElem?_getD, Int.toNat_natCast, toNat_sub1, toNat_add1, CK.norm, big, dVs_len, dCh_len, dStr_len, dVs_0, dVs_1, dCh_0, dStr_0, Nat.zero_add, List.length_map, List.length_take, List.length_append, List.length_cons, List.length_nil, List.length_replicate, not_true_eq_false, wrapI] at hc) <;> conv => whnf) | (refine .head _ rfl (by kernel_rfl) ?_; conv => whnf) | (refine And.intro ?_ ?_; (focus ((first | omega | decide | (simp (disch := omega) only [List.getD_eq_getElem?_getD, Int.toNat_natCast, toNat_sub1, toNat_add1, CK.norm, big, dVs_len, dCh_len, dStr_len, dVs_0, dVs_1, dCh_0, dStr_0, Nat.zero_add, List.length_map, List.length_take, List.length_append, List.length_cons, List.length_nil, List.length_replicate, not_true_eq_false, wrapI] <;> omega) | (simp [strOf, List.getD_eq_getElem?_getD, Int.toNat_natCast, toNat_sub1, toNat_add1, CK.norm, big, dVs_len, dCh_len, dStr_len, dVs_0, dVs_1, dCh_0, dStr_0, Nat.zero_add, List.length_map, List.length_take, List.length_append, List.length_cons, List.length_nil, List.length_replicate, not_true_eq_false] <;> omega) | exact Nat.le_of_ble_eq_true rfl | rfl); done)); conv => whnf) | (rw [vv]; conv => whnf) | (refine NilP.mk fun nb hnb => ?_; conv => whnf))
  refine loopOf (fun i : Nat => ⟨[(1, .ref 0 0), (3, .row 1), (4, .d (.int .i64 (i : Int)))], [.box [.d (.list 141 (dCh 143 cs)), .d (.int .i64 now)], .row 9 .deep 0 (dStr (stL cs now i))]⟩) (fun i => i ≤ 8) (fun i => 8 - i) 0 rfl (Nat.zero_le _) ?_
  intro i I hi rec
  (conv => whnf); repeat' (first | ((first | refine bdec ?_ ?_ | refine bnot ?_ ?_ | refine bsel_intro ?_ ?_ | skip) <;> intro hc <;> (try simp (disch := omega) only [List.getD_eq_getElem?_getD, Int.toNat_natCast, toNat_sub1, toNat_add1, CK.norm, big, dVs_len, dCh_len, dStr_len, dVs_0, dVs_1, dCh_0, dStr_0, Nat.zero_add, List.length_map, List.length_take, List.length_append, List.length_cons, List.length_nil, List.length_replicate, not_true_eq_false, wrapI] at hc) <;> conv => whnf) | (refine .head _ rfl (by kernel_rfl) ?_; conv => whnf) | (refine And.intro ?_ ?_; (focus ((first | omega | decide | (simp (disch := omega) only [List.getD_eq_getElem?_getD, Int.toNat_natCast, toNat_sub1, toNat_add1, CK.norm, big, dVs_len, dCh_len, dStr_len, dVs_0, dVs_1, dCh_0, dStr_0, Nat.zero_add, List.length_map, List.length_take, List.length_append, List.length_cons, List.length_nil, List.length_replicate, not_true_eq_false, wrapI] <;> omega) | (simp [strOf, List.getD_eq_getElem?_getD, Int.toNat_natCast, toNat_sub1, toNat_add1, CK.norm, big, dVs_len, dCh_len, dStr_len, dVs_0, dVs_1, dCh_0, dStr_0, Nat.zero_add, List.length_map, List.length_take, List.length_append, List.length_cons, List.length_nil, List.length_replicate, not_true_eq_false] <;> omega) | exact Nat.le_of_ble_eq_true rfl | rfl); done)); conv => whnf) | (rw [vv]; conv => whnf) | (refine NilP.mk fun nb hnb => ?_; conv => whnf))
  · have hi8 : i < 8 := by omega
    have he := even_val hok hi8 now
    have ho := odd_val hok hi8 now
    refine wpArgs (xs' := [.agg [.d (.list 141 (dCh 143 cs)), .d (.int .i64 now)], .d (.int .i64 ((2 * i : Nat) : Int)), .d (.int .i64 now)]) (by rw [wrapI (by omega) (by omega)]; simp) (w113 (by omega) ?_)
    (conv => whnf); repeat' (first | ((first | refine bdec ?_ ?_ | refine bnot ?_ ?_ | refine bsel_intro ?_ ?_ | skip) <;> intro hc <;> (try simp (disch := omega) only [List.getD_eq_getElem?_getD, Int.toNat_natCast, toNat_sub1, toNat_add1, CK.norm, big, dVs_len, dCh_len, dStr_len, dVs_0, dVs_1, dCh_0, dStr_0, Nat.zero_add, List.length_map, List.length_take, List.length_append, List.length_cons, List.length_nil, List.length_replicate, not_true_eq_false, wrapI] at hc) <;> conv => whnf) | (refine .head _ rfl (by kernel_rfl) ?_; conv => whnf) | (refine And.intro ?_ ?_; (focus ((first | omega | decide | (simp (disch := omega) only [List.getD_eq_getElem?_getD, Int.toNat_natCast, toNat_sub1, toNat_add1, CK.norm, big, dVs_len, dCh_len, dStr_len, dVs_0, dVs_1, dCh_0, dStr_0, Nat.zero_add, List.length_map, List.length_take, List.length_append, List.length_cons, List.length_nil, List.length_replicate, not_true_eq_false, wrapI] <;> omega) | (simp [strOf, List.getD_eq_getElem?_getD, Int.toNat_natCast, toNat_sub1, toNat_add1, CK.norm, big, dVs_len, dCh_len, dStr_len, dVs_0, dVs_1, dCh_0, dStr_0, Nat.zero_add, List.length_map, List.length_take, List.length_append, List.length_cons, List.length_nil, List.length_replicate, not_true_eq_false] <;> omega) | exact Nat.le_of_ble_eq_true rfl | rfl); done)); conv => whnf) | (rw [vv]; conv => whnf) | (refine NilP.mk fun nb hnb => ?_; conv => whnf))
    refine wpArgs (xs' := [.agg [.d (.list 141 (dCh 143 cs)), .d (.int .i64 now)], .d (.int .i64 ((2 * i + 1 : Nat) : Int)), .d (.int .i64 now)]) (by rw [wrapI (n := 2 * (i : Int)) (by omega) (by omega), wrapI (by omega) (by omega)]; simp) (w113 (by omega) ?_)
    have hst := stL_succ cs now i
    generalize rdAt ((cs[2 * i]?).getD []) now = v at he hst
    generalize rdAt ((cs[2 * i + 1]?).getD []) now = n at ho hst
    have hw : IntKind.wrap IntKind.i64 (n - 1) = n - 1 := wrapI (by omega) (by omega)
    have hlen := stL_len cs now i
    have l1 := itoa_len (n := (i : Int)) (by omega)
    have l2 := itoa_len (n := v) (by omega)
    have l3 := itoa_len (n := IntKind.wrap IntKind.i64 (n - 1)) (by omega)
    have fin : ∀ (x : List Str) (w : Int), nodeL i v n = x → w = ((i + 1 : Nat) : Int) → I ⟨[(1, .ref 0 0), (3, .row 1), (4, .d (.int .i64 w))], [.box [.d (.list 141 (dCh 143 cs)), .d (.int .i64 now)], .row 9 .deep 0 (dStr (stL cs now i) ++ dStr x)]⟩ := fun x w hx hw => by
      refine eqI (rec (i + 1) (by omega) (by omega)) ?_
      rw [hst, hx, hw]; simp only [dStr, List.map_append]
    (conv => whnf); repeat' (first | ((first | refine bdec ?_ ?_ | refine bnot ?_ ?_ | refine bsel_intro ?_ ?_ | skip) <;> intro hc <;> (try simp (disch := omega) only [List.getD_eq_getElem?_getD, Int.toNat_natCast, toNat_sub1, toNat_add1, CK.norm, big, dVs_len, dCh_len, dStr_len, dVs_0, dVs_1, dCh_0, dStr_0, Nat.zero_add, List.length_map, List.length_take, List.length_append, List.length_cons, List.length_nil, List.length_replicate, not_true_eq_false, wrapI] at hc) <;> conv => whnf) | (refine .head _ rfl (by kernel_rfl) ?_; conv => whnf) | (refine w94 (by omega) ?_; conv => whnf) | (apply pcall; (focus (intro _ _ hk; first | exact w94 (by omega) hk)); conv => whnf) | (refine And.intro ?_ ?_; (focus ((first | omega | decide | (simp (disch := omega) only [List.getD_eq_getElem?_getD, Int.toNat_natCast, toNat_sub1, toNat_add1, CK.norm, big, dVs_len, dCh_len, dStr_len, dVs_0, dVs_1, dCh_0, dStr_0, Nat.zero_add, List.length_map, List.length_take, List.length_append, List.length_cons, List.length_nil, List.length_replicate, not_true_eq_false, wrapI] <;> omega) | (simp [strOf, List.getD_eq_getElem?_getD, Int.toNat_natCast, toNat_sub1, toNat_add1, CK.norm, big, dVs_len, dCh_len, dStr_len, dVs_0, dVs_1, dCh_0, dStr_0, Nat.zero_add, List.length_map, List.length_take, List.length_append, List.length_cons, List.length_nil, List.length_replicate, not_true_eq_false] <;> omega) | exact Nat.le_of_ble_eq_true rfl | rfl); done)); conv => whnf) | (rw [vv]; conv => whnf) | (refine NilP.mk fun nb hnb => ?_; conv => whnf))
    · refine eqI (fin [] _ (by simp_all [nodeL]) (wrapS (by omega))) ?_
      simp [dStr]
    all_goals first | omega | skip
    · refine eqI (fin _ _ (if_pos hc) (wrapS (by omega))) ?_
      rw [hw]
      simp [dStr, cNode, cValue, cNext]
    · refine eqI (fin _ _ (if_pos hc) (wrapS (by omega))) ?_
      rw [hw]
      simp [dStr, cNode, cValue, cNext]
    · rename_i hv
      refine eqI (fin _ _ ((if_neg hc).trans (if_neg hv)) (wrapS (by omega))) ?_
      simp [dStr, cNode, cValue, cNext]
  · refine loopOf (fun i : Nat => ⟨[(1, .ref 0 0), (3, .row 1), (8, .d (.int .i64 (szCh (cs.take i) : Int))), (9, .d (.int .i64 (i : Int)))], [.box [.d (.list 141 (dCh 143 cs)), .d (.int .i64 now)], .row 9 .deep 0 (dStr (stL cs now 8))]⟩) (fun i => i ≤ 16) (fun i => 16 - i) 0 (by rw [show i = 8 by omega]; rfl) (Nat.zero_le _) ?_
    intro k J hk rec2
    have l1 := itoa_len (n := now) (by omega)
    have l2 := itoa_len (n := (szCh (cs.take k) : Int)) (by have := szCh_take cs k; omega)
    have hm := szCh_take cs k
    have hlen := stL_len cs now 8
    (conv => whnf); repeat' (first | ((first | refine bdec ?_ ?_ | refine bnot ?_ ?_ | refine bsel_intro ?_ ?_ | skip) <;> intro hc <;> (try simp (disch := omega) only [List.getD_eq_getElem?_getD, Int.toNat_natCast, toNat_sub1, toNat_add1, CK.norm, big, dVs_len, dCh_len, dStr_len, dVs_0, dVs_1, dCh_0, dStr_0, Nat.zero_add, List.length_map, List.length_take, List.length_append, List.length_cons, List.length_nil, List.length_replicate, not_true_eq_false, wrapI] at hc) <;> conv => whnf) | (refine .head _ rfl (by kernel_rfl) ?_; conv => whnf) | (refine w94 (by omega) ?_; conv => whnf) | (apply pcall; (focus (intro _ _ hk; first | exact w94 (by omega) hk)); conv => whnf) | (refine And.intro ?_ ?_; (focus ((first | omega | decide | (simp (disch := omega) only [List.getD_eq_getElem?_getD, Int.toNat_natCast, toNat_sub1, toNat_add1, CK.norm, big, dVs_len, dCh_len, dStr_len, dVs_0, dVs_1, dCh_0, dStr_0, Nat.zero_add, List.length_map, List.length_take, List.length_append, List.length_cons, List.length_nil, List.length_replicate, not_true_eq_false, wrapI] <;> omega) | (simp [strOf, List.getD_eq_getElem?_getD, Int.toNat_natCast, toNat_sub1, toNat_add1, CK.norm, big, dVs_len, dCh_len, dStr_len, dVs_0, dVs_1, dCh_0, dStr_0, Nat.zero_add, List.length_map, List.length_take, List.length_append, List.length_cons, List.length_nil, List.length_replicate, not_true_eq_false] <;> omega) | exact Nat.le_of_ble_eq_true rfl | rfl); done)); conv => whnf) | (rw [vv]; conv => whnf) | (refine NilP.mk fun nb hnb => ?_; conv => whnf))
    · refine eqI (rec2 (k + 1) (by omega) (by omega)) ?_
      have hs2 : szCh (cs.take (k + 1)) = szCh (cs.take k) + ((cs[k]?).getD []).length := by
        rw [take_succ_get cs k [] (by omega)]; simp [szCh]
      have hm2 := szCh_take cs (k + 1)
      simp only [List.getD_eq_getElem?_getD, Int.toNat_natCast, toNat_sub1, toNat_add1, CK.norm, big, dVs_len, dCh_len, dStr_len, dVs_0, dVs_1, dCh_0, dStr_0, Nat.zero_add, List.length_map, List.length_take, List.length_append, List.length_cons, List.length_nil, List.length_replicate, not_true_eq_false]
      rw [wrapS (by omega), wrapI (by omega) (by omega), hs2]
      simp
    · rw [List.take_of_length_le (by omega)]
      simpa [stLines, dStr, cNow, cVers] using h 0
theorem w65 {cs : List (List Ver)} {now : Int} {Kr Kp : C → List Ob → R} (hP : HasPow T) (hok : stOK (cs, now) = true) (hs : szCh cs ≤ 4294967296) (h : ∀ ver, Kr (.row 0) [.row 9 .deep ver (dStr (stLines cs now))]) : Wp T Tryz.prog tt 65 [.agg [.d (.list 141 (dCh 143 cs)), .d (.int .i64 now)]] [] Kr Kp := by
  have hcl := stOK_len hok
  have hnow := stOK_now hok
  refine go (k := 65) (own := true) (cap := .deep) Tryz.func65 (by kernel_rfl) ?_
  (conv => whnf); repeat' (first | ((first | refine bdec ?_ ?_ | refine bnot ?_ ?_ | refine bsel_intro ?_ ?_ | skip) <;> intro hc <;> (try simp (disch := omega) only [List.getD_eq_getElem?_getD, Int.toNat_natCast, toNat_sub1, toNat_add1, CK.norm, big, dVs_len, dCh_len, dStr_len, dVs_0, dVs_1, dCh_0, dStr_0, Nat.zero_add, List.length_map, List.length_take, List.length_append, List.length_cons, List.length_nil, List.length_replicate, not_true_eq_false, wrapI] at hc) <;> conv => whnf) | (refine .head _ rfl (by kernel_rfl) ?_; conv => whnf) | (refine And.intro ?_ ?_; (focus ((first | omega | decide | (simp (disch := omega) only [List.getD_eq_getElem?_getD, Int.toNat_natCast, toNat_sub1, toNat_add1, CK.norm, big, dVs_len, dCh_len, dStr_len, dVs_0, dVs_1, dCh_0, dStr_0, Nat.zero_add, List.length_map, List.length_take, List.length_append, List.length_cons, List.length_nil, List.length_replicate, not_true_eq_false, wrapI] <;> omega) | (simp [strOf, List.getD_eq_getElem?_getD, Int.toNat_natCast, toNat_sub1, toNat_add1, CK.norm, big, dVs_len, dCh_len, dStr_len, dVs_0, dVs_1, dCh_0, dStr_0, Nat.zero_add, List.length_map, List.length_take, List.length_append, List.length_cons, List.length_nil, List.length_replicate, not_true_eq_false] <;> omega) | exact Nat.le_of_ble_eq_true rfl | rfl); done)); conv => whnf) | (rw [vv]; conv => whnf) | (refine NilP.mk fun nb hnb => ?_; conv => whnf))
  refine loopOf (fun i : Nat => ⟨[(1, .ref 0 0), (3, .row 1), (8, .d (.int .i64 (i : Int)))], [.box [.d (.list 141 (dCh 143 cs)), .d (.int .i64 now)], .row 9 .deep 0 (dStr (stL cs now i))]⟩) (fun i => i ≤ 8) (fun i => 8 - i) 0 rfl (Nat.zero_le _) ?_
  intro i I hi rec
  (conv => whnf); repeat' (first | ((first | refine bdec ?_ ?_ | refine bnot ?_ ?_ | refine bsel_intro ?_ ?_ | skip) <;> intro hc <;> (try simp (disch := omega) only [List.getD_eq_getElem?_getD, Int.toNat_natCast, toNat_sub1, toNat_add1, CK.norm, big, dVs_len, dCh_len, dStr_len, dVs_0, dVs_1, dCh_0, dStr_0, Nat.zero_add, List.length_map, List.length_take, List.length_append, List.length_cons, List.length_nil, List.length_replicate, not_true_eq_false, wrapI] at hc) <;> conv => whnf) | (refine .head _ rfl (by kernel_rfl) ?_; conv => whnf) | (refine And.intro ?_ ?_; (focus ((first | omega | decide | (simp (disch := omega) only [List.getD_eq_getElem?_getD, Int.toNat_natCast, toNat_sub1, toNat_add1, CK.norm, big, dVs_len, dCh_len, dStr_len, dVs_0, dVs_1, dCh_0, dStr_0, Nat.zero_add, List.length_map, List.length_take, List.length_append, List.length_cons, List.length_nil, List.length_replicate, not_true_eq_false, wrapI] <;> omega) | (simp [strOf, List.getD_eq_getElem?_getD, Int.toNat_natCast, toNat_sub1, toNat_add1, CK.norm, big, dVs_len, dCh_len, dStr_len, dVs_0, dVs_1, dCh_0, dStr_0, Nat.zero_add, List.length_map, List.length_take, List.length_append, List.length_cons, List.length_nil, List.length_replicate, not_true_eq_false] <;> omega) | exact Nat.le_of_ble_eq_true rfl | rfl); done)); conv => whnf) | (rw [vv]; conv => whnf) | (refine NilP.mk fun nb hnb => ?_; conv => whnf))
  · have hi8 : i < 8 := by omega
    have he := even_val hok hi8 now
    have ho := odd_val hok hi8 now
    rw [show IntKind.wrap IntKind.i64 (2 * (i : Int)) = ((2 * i : Nat) : Int) by rw [wrapI (by omega) (by omega)]; simp]
    refine ⟨_, fun _ _ hk => w109 (by omega) hk, ?_⟩
    (conv => whnf); repeat' (first | ((first | refine bdec ?_ ?_ | refine bnot ?_ ?_ | refine bsel_intro ?_ ?_ | skip) <;> intro hc <;> (try simp (disch := omega) only [List.getD_eq_getElem?_getD, Int.toNat_natCast, toNat_sub1, toNat_add1, CK.norm, big, dVs_len, dCh_len, dStr_len, dVs_0, dVs_1, dCh_0, dStr_0, Nat.zero_add, List.length_map, List.length_take, List.length_append, List.length_cons, List.length_nil, List.length_replicate, not_true_eq_false, wrapI] at hc) <;> conv => whnf) | (refine .head _ rfl (by kernel_rfl) ?_; conv => whnf) | (refine And.intro ?_ ?_; (focus ((first | omega | decide | (simp (disch := omega) only [List.getD_eq_getElem?_getD, Int.toNat_natCast, toNat_sub1, toNat_add1, CK.norm, big, dVs_len, dCh_len, dStr_len, dVs_0, dVs_1, dCh_0, dStr_0, Nat.zero_add, List.length_map, List.length_take, List.length_append, List.length_cons, List.length_nil, List.length_replicate, not_true_eq_false, wrapI] <;> omega) | (simp [strOf, List.getD_eq_getElem?_getD, Int.toNat_natCast, toNat_sub1, toNat_add1, CK.norm, big, dVs_len, dCh_len, dStr_len, dVs_0, dVs_1, dCh_0, dStr_0, Nat.zero_add, List.length_map, List.length_take, List.length_append, List.length_cons, List.length_nil, List.length_replicate, not_true_eq_false] <;> omega) | exact Nat.le_of_ble_eq_true rfl | rfl); done)); conv => whnf) | (rw [vv]; conv => whnf) | (refine NilP.mk fun nb hnb => ?_; conv => whnf))
    refine wpArgs (xs' := [.agg [.d (.list 141 (dCh 143 cs)), .d (.int .i64 now)], .d (.int .i64 ((2 * i + 1 : Nat) : Int)), .d (.int .i64 now)]) (by rw [wrapI (n := 2 * (i : Int)) (by omega) (by omega), wrapI (by omega) (by omega)]; simp) (w109 (by omega) ?_)
    have hlen := stL_len cs now i
    have hst := stL_succ cs now i
    generalize rdAt ((cs[2 * i]?).getD []) now = v at he hst
    generalize rdAt ((cs[2 * i + 1]?).getD []) now = n at ho hst
    have hw : IntKind.wrap IntKind.i64 (n - 1) = n - 1 := wrapI (by omega) (by omega)
    have fin : ∀ (x : List Str) (w : Int), nodeL i v n = x → w = ((i + 1 : Nat) : Int) → I ⟨[(1, .ref 0 0), (3, .row 1), (8, .d (.int .i64 w))], [.box [.d (.list 141 (dCh 143 cs)), .d (.int .i64 now)], .row 9 .deep 0 (dStr (stL cs now i) ++ dStr x)]⟩ := fun x w hx hw => by
      refine eqI (rec (i + 1) (by omega) (by omega)) ?_
      rw [hst, hx, hw]; simp only [dStr, List.map_append]
    have l1 := itoa_len (n := (i : Int)) (by omega)
    have l2 := itoa_len (n := v) (by omega)
    have l3 := itoa_len (n := IntKind.wrap IntKind.i64 (n - 1)) (by omega)
    (conv => whnf); repeat' (first | ((first | refine bdec ?_ ?_ | refine bnot ?_ ?_ | refine bsel_intro ?_ ?_ | skip) <;> intro hc <;> (try simp (disch := omega) only [List.getD_eq_getElem?_getD, Int.toNat_natCast, toNat_sub1, toNat_add1, CK.norm, big, dVs_len, dCh_len, dStr_len, dVs_0, dVs_1, dCh_0, dStr_0, Nat.zero_add, List.length_map, List.length_take, List.length_append, List.length_cons, List.length_nil, List.length_replicate, not_true_eq_false, wrapI] at hc) <;> conv => whnf) | (refine .head _ rfl (by kernel_rfl) ?_; conv => whnf) | (refine And.intro ?_ ?_; (focus ((first | omega | decide | (simp (disch := omega) only [List.getD_eq_getElem?_getD, Int.toNat_natCast, toNat_sub1, toNat_add1, CK.norm, big, dVs_len, dCh_len, dStr_len, dVs_0, dVs_1, dCh_0, dStr_0, Nat.zero_add, List.length_map, List.length_take, List.length_append, List.length_cons, List.length_nil, List.length_replicate, not_true_eq_false, wrapI] <;> omega) | (simp [strOf, List.getD_eq_getElem?_getD, Int.toNat_natCast, toNat_sub1, toNat_add1, CK.norm, big, dVs_len, dCh_len, dStr_len, dVs_0, dVs_1, dCh_0, dStr_0, Nat.zero_add, List.length_map, List.length_take, List.length_append, List.length_cons, List.length_nil, List.length_replicate, not_true_eq_false] <;> omega) | exact Nat.le_of_ble_eq_true rfl | rfl); done)); conv => whnf) | (rw [vv]; conv => whnf) | (refine NilP.mk fun nb hnb => ?_; conv => whnf))
    · refine wpArgs (xs' := [.d (.list 20 ([Pt.txt [110, 111, 100, 101], .num i, .txt [118, 97, 108, 117, 101], .num v, .txt [110, 101, 120, 116], .num (IntKind.wrap IntKind.i64 (n - 1))].map Pt.d))]) rfl (w110 hP (by simp [inR]; omega) (by simp [Pt.t, Lib.join_cons, Lib.joinTail]; omega) ?_)
      (conv => whnf); repeat' (first | ((first | refine bdec ?_ ?_ | refine bnot ?_ ?_ | refine bsel_intro ?_ ?_ | skip) <;> intro hc <;> (try simp (disch := omega) only [List.getD_eq_getElem?_getD, Int.toNat_natCast, toNat_sub1, toNat_add1, CK.norm, big, dVs_len, dCh_len, dStr_len, dVs_0, dVs_1, dCh_0, dStr_0, Nat.zero_add, List.length_map, List.length_take, List.length_append, List.length_cons, List.length_nil, List.length_replicate, not_true_eq_false, wrapI] at hc) <;> conv => whnf) | (refine .head _ rfl (by kernel_rfl) ?_; conv => whnf) | (refine And.intro ?_ ?_; (focus ((first | omega | decide | (simp (disch := omega) only [List.getD_eq_getElem?_getD, Int.toNat_natCast, toNat_sub1, toNat_add1, CK.norm, big, dVs_len, dCh_len, dStr_len, dVs_0, dVs_1, dCh_0, dStr_0, Nat.zero_add, List.length_map, List.length_take, List.length_append, List.length_cons, List.length_nil, List.length_replicate, not_true_eq_false, wrapI] <;> omega) | (simp [strOf, List.getD_eq_getElem?_getD, Int.toNat_natCast, toNat_sub1, toNat_add1, CK.norm, big, dVs_len, dCh_len, dStr_len, dVs_0, dVs_1, dCh_0, dStr_0, Nat.zero_add, List.length_map, List.length_take, List.length_append, List.length_cons, List.length_nil, List.length_replicate, not_true_eq_false] <;> omega) | exact Nat.le_of_ble_eq_true rfl | rfl); done)); conv => whnf) | (rw [vv]; conv => whnf) | (refine NilP.mk fun nb hnb => ?_; conv => whnf))
      refine eqI (fin _ _ (if_pos ‹_›) (wrapS (by omega))) ?_
      rw [hw]
      simp [dStr, cNode, cValue, cNext, Pt.t, Lib.join_cons, Lib.joinTail]
    · rename_i hn
      refine wpArgs (xs' := [.d (.list 20 ([Pt.txt [110, 111, 100, 101], .num i, .txt [118, 97, 108, 117, 101], .num v].map Pt.d))]) rfl (w110 hP (by simp [inR]; omega) (by simp [Pt.t, Lib.join_cons, Lib.joinTail]; omega) ?_)
      (conv => whnf); repeat' (first | ((first | refine bdec ?_ ?_ | refine bnot ?_ ?_ | refine bsel_intro ?_ ?_ | skip) <;> intro hc <;> (try simp (disch := omega) only [List.getD_eq_getElem?_getD, Int.toNat_natCast, toNat_sub1, toNat_add1, CK.norm, big, dVs_len, dCh_len, dStr_len, dVs_0, dVs_1, dCh_0, dStr_0, Nat.zero_add, List.length_map, List.length_take, List.length_append, List.length_cons, List.length_nil, List.length_replicate, not_true_eq_false, wrapI] at hc) <;> conv => whnf) | (refine .head _ rfl (by kernel_rfl) ?_; conv => whnf) | (refine And.intro ?_ ?_; (focus ((first | omega | decide | (simp (disch := omega) only [List.getD_eq_getElem?_getD, Int.toNat_natCast, toNat_sub1, toNat_add1, CK.norm, big, dVs_len, dCh_len, dStr_len, dVs_0, dVs_1, dCh_0, dStr_0, Nat.zero_add, List.length_map, List.length_take, List.length_append, List.length_cons, List.length_nil, List.length_replicate, not_true_eq_false, wrapI] <;> omega) | (simp [strOf, List.getD_eq_getElem?_getD, Int.toNat_natCast, toNat_sub1, toNat_add1, CK.norm, big, dVs_len, dCh_len, dStr_len, dVs_0, dVs_1, dCh_0, dStr_0, Nat.zero_add, List.length_map, List.length_take, List.length_append, List.length_cons, List.length_nil, List.length_replicate, not_true_eq_false] <;> omega) | exact Nat.le_of_ble_eq_true rfl | rfl); done)); conv => whnf) | (rw [vv]; conv => whnf) | (refine NilP.mk fun nb hnb => ?_; conv => whnf))
      refine eqI (fin _ _ ((if_neg hn).trans (if_neg hc)) (wrapS (by omega))) ?_
      simp [dStr, cNode, cValue, Pt.t, Lib.join_cons, Lib.joinTail]
    · rename_i hn
      refine eqI (fin [] _ ((if_neg hn).trans (if_pos hc)) (wrapS (by omega))) ?_
      simp [dStr]
  · refine ⟨_, fun _ _ hk => w111 hs hk, ?_⟩
    have hlen := stL_len cs now 8
    obtain rfl : i = 8 := by omega
    have l1 := itoa_len (n := now) (by omega)
    have l2 := itoa_len (n := (szCh cs : Int)) (by omega)
    (conv => whnf); repeat' (first | ((first | refine bdec ?_ ?_ | refine bnot ?_ ?_ | refine bsel_intro ?_ ?_ | skip) <;> intro hc <;> (try simp (disch := omega) only [List.getD_eq_getElem?_getD, Int.toNat_natCast, toNat_sub1, toNat_add1, CK.norm, big, dVs_len, dCh_len, dStr_len, dVs_0, dVs_1, dCh_0, dStr_0, Nat.zero_add, List.length_map, List.length_take, List.length_append, List.length_cons, List.length_nil, List.length_replicate, not_true_eq_false, wrapI] at hc) <;> conv => whnf) | (refine .head _ rfl (by kernel_rfl) ?_; conv => whnf) | (refine And.intro ?_ ?_; (focus ((first | omega | decide | (simp (disch := omega) only [List.getD_eq_getElem?_getD, Int.toNat_natCast, toNat_sub1, toNat_add1, CK.norm, big, dVs_len, dCh_len, dStr_len, dVs_0, dVs_1, dCh_0, dStr_0, Nat.zero_add, List.length_map, List.length_take, List.length_append, List.length_cons, List.length_nil, List.length_replicate, not_true_eq_false, wrapI] <;> omega) | (simp [strOf, List.getD_eq_getElem?_getD, Int.toNat_natCast, toNat_sub1, toNat_add1, CK.norm, big, dVs_len, dCh_len, dStr_len, dVs_0, dVs_1, dCh_0, dStr_0, Nat.zero_add, List.length_map, List.length_take, List.length_append, List.length_cons, List.length_nil, List.length_replicate, not_true_eq_false] <;> omega) | exact Nat.le_of_ble_eq_true rfl | rfl); done)); conv => whnf) | (rw [vv]; conv => whnf) | (refine NilP.mk fun nb hnb => ?_; conv => whnf))
    refine ⟨_, fun _ _ hk => wpArgs (xs' := [.d (.list 20 ([Pt.txt [110, 111, 119], .num now, .txt [118, 101, 114, 115, 105, 111, 110, 115], .num (szCh cs)].map Pt.d))]) rfl (w110 hP (by simp [inR]; omega) (by simp [Pt.t, Lib.join_cons, Lib.joinTail]; omega) hk), ?_⟩
    (conv => whnf); repeat' (first | ((first | refine bdec ?_ ?_ | refine bnot ?_ ?_ | refine bsel_intro ?_ ?_ | skip) <;> intro hc <;> (try simp (disch := omega) only [List.getD_eq_getElem?_getD, Int.toNat_natCast, toNat_sub1, toNat_add1, CK.norm, big, dVs_len, dCh_len, dStr_len, dVs_0, dVs_1, dCh_0, dStr_0, Nat.zero_add, List.length_map, List.length_take, List.length_append, List.length_cons, List.length_nil, List.length_replicate, not_true_eq_false, wrapI] at hc) <;> conv => whnf) | (refine .head _ rfl (by kernel_rfl) ?_; conv => whnf) | (refine And.intro ?_ ?_; (focus ((first | omega | decide | (simp (disch := omega) only [List.getD_eq_getElem?_getD, Int.toNat_natCast, toNat_sub1, toNat_add1, CK.norm, big, dVs_len, dCh_len, dStr_len, dVs_0, dVs_1, dCh_0, dStr_0, Nat.zero_add, List.length_map, List.length_take, List.length_append, List.length_cons, List.length_nil, List.length_replicate, not_true_eq_false, wrapI] <;> omega) | (simp [strOf, List.getD_eq_getElem?_getD, Int.toNat_natCast, toNat_sub1, toNat_add1, CK.norm, big, dVs_len, dCh_len, dStr_len, dVs_0, dVs_1, dCh_0, dStr_0, Nat.zero_add, List.length_map, List.length_take, List.length_append, List.length_cons, List.length_nil, List.length_replicate, not_true_eq_false] <;> omega) | exact Nat.le_of_ble_eq_true rfl | rfl); done)); conv => whnf) | (rw [vv]; conv => whnf) | (refine NilP.mk fun nb hnb => ?_; conv => whnf))
    simpa [stLines, dStr, cNow, cVers, Pt.t, Lib.join_cons, Lib.joinTail] using h 0
end Go.Proofs.SL
set_option linter.unusedVariables false
set_option linter.unusedSimpArgs false
set_option maxRecDepth 100000
set_option maxHeartbeats 8000000
namespace Go.Proofs.SL
open Go Go.Proofs Go.Proofs.EN Go.Proofs.VT
variable {T : Tabs}
/-- What StoreLines comes to. -/
def slR (cs : List (List Ver)) (now : Int) : List Str × Int := if stOK (cs, now) then (stLines cs now, 0) else ([], 1)
theorem w25 {cs : List (List Ver)} {now : Int} {Kr Kp : C → List Ob → R} (hs : szCh cs ≤ 4294967296) (h : ∀ ver, Kr (.tuple [.row 0, .d (.int .i64 (slR cs now).2)]) [.row 9 .deep ver (dStr (slR cs now).1)]) : Wp T Tryz.prog tt 25 [.agg [.d (.list 141 (dCh 143 cs)), .d (.int .i64 now)]] [] Kr Kp := by
  refine go (k := 25) (own := true) (cap := .deep) Tryz.func25 (by kernel_rfl) ?_
  (conv => whnf); repeat' (first | ((first | refine bdec ?_ ?_ | refine bnot ?_ ?_ | refine bsel_intro ?_ ?_ | skip) <;> intro hc <;> (try simp (disch := omega) only [List.getD_eq_getElem?_getD, Int.toNat_natCast, toNat_sub1, toNat_add1, CK.norm, big, dVs_len, dCh_len, dStr_len, dVs_0, dVs_1, dCh_0, dStr_0, Nat.zero_add, List.length_map, List.length_take, List.length_append, List.length_cons, List.length_nil, List.length_replicate, not_true_eq_false, wrapI] at hc) <;> conv => whnf) | (refine .head _ rfl (by kernel_rfl) ?_; conv => whnf) | (refine w66 ?_; conv => whnf) | (apply pcall; (focus (intro _ _ hk; first | exact w66 hk)); conv => whnf) | (refine And.intro ?_ ?_; (focus ((first | omega | decide | (simp (disch := omega) only [List.getD_eq_getElem?_getD, Int.toNat_natCast, toNat_sub1, toNat_add1, CK.norm, big, dVs_len, dCh_len, dStr_len, dVs_0, dVs_1, dCh_0, dStr_0, Nat.zero_add, List.length_map, List.length_take, List.length_append, List.length_cons, List.length_nil, List.length_replicate, not_true_eq_false, wrapI] <;> omega) | (simp [strOf, List.getD_eq_getElem?_getD, Int.toNat_natCast, toNat_sub1, toNat_add1, CK.norm, big, dVs_len, dCh_len, dStr_len, dVs_0, dVs_1, dCh_0, dStr_0, Nat.zero_add, List.length_map, List.length_take, List.length_append, List.length_cons, List.length_nil, List.length_replicate, not_true_eq_false] <;> omega) | exact Nat.le_of_ble_eq_true rfl | rfl); done)); conv => whnf) | (rw [vv]; conv => whnf) | (refine NilP.mk fun nb hnb => ?_; conv => whnf))
  · have hc : stOK (cs, now) = false := by simpa using hc
    simpa [slR, hc, dStr] using h 0
  · have hc : stOK (cs, now) = true := by simpa using hc
    refine w67 hc hs fun ver => ?_
    (conv => whnf); repeat' (first | ((first | refine bdec ?_ ?_ | refine bnot ?_ ?_ | refine bsel_intro ?_ ?_ | skip) <;> intro hc <;> (try simp (disch := omega) only [List.getD_eq_getElem?_getD, Int.toNat_natCast, toNat_sub1, toNat_add1, CK.norm, big, dVs_len, dCh_len, dStr_len, dVs_0, dVs_1, dCh_0, dStr_0, Nat.zero_add, List.length_map, List.length_take, List.length_append, List.length_cons, List.length_nil, List.length_replicate, not_true_eq_false, wrapI] at hc) <;> conv => whnf) | (refine .head _ rfl (by kernel_rfl) ?_; conv => whnf) | (refine And.intro ?_ ?_; (focus ((first | omega | decide | (simp (disch := omega) only [List.getD_eq_getElem?_getD, Int.toNat_natCast, toNat_sub1, toNat_add1, CK.norm, big, dVs_len, dCh_len, dStr_len, dVs_0, dVs_1, dCh_0, dStr_0, Nat.zero_add, List.length_map, List.length_take, List.length_append, List.length_cons, List.length_nil, List.length_replicate, not_true_eq_false, wrapI] <;> omega) | (simp [strOf, List.getD_eq_getElem?_getD, Int.toNat_natCast, toNat_sub1, toNat_add1, CK.norm, big, dVs_len, dCh_len, dStr_len, dVs_0, dVs_1, dCh_0, dStr_0, Nat.zero_add, List.length_map, List.length_take, List.length_append, List.length_cons, List.length_nil, List.length_replicate, not_true_eq_false] <;> omega) | exact Nat.le_of_ble_eq_true rfl | rfl); done)); conv => whnf) | (rw [vv]; conv => whnf) | (refine NilP.mk fun nb hnb => ?_; conv => whnf))
    simpa [slR, hc] using h ver
theorem w24 {cs : List (List Ver)} {now : Int} {Kr Kp : C → List Ob → R} (hP : HasPow T) (hs : szCh cs ≤ 4294967296) (h : ∀ ver, Kr (.tuple [.row 0, .d (.int .i64 (slR cs now).2)]) [.row 9 .deep ver (dStr (slR cs now).1)]) : Wp T Tryz.prog tt 24 [.agg [.d (.list 141 (dCh 143 cs)), .d (.int .i64 now)]] [] Kr Kp := by
  refine go (k := 24) (own := true) (cap := .deep) Tryz.func24 (by kernel_rfl) ?_
  (conv => whnf); repeat' (first | ((first | refine bdec ?_ ?_ | refine bnot ?_ ?_ | refine bsel_intro ?_ ?_ | skip) <;> intro hc <;> (try simp (disch := omega) only [List.getD_eq_getElem?_getD, Int.toNat_natCast, toNat_sub1, toNat_add1, CK.norm, big, dVs_len, dCh_len, dStr_len, dVs_0, dVs_1, dCh_0, dStr_0, Nat.zero_add, List.length_map, List.length_take, List.length_append, List.length_cons, List.length_nil, List.length_replicate, not_true_eq_false, wrapI] at hc) <;> conv => whnf) | (refine .head _ rfl (by kernel_rfl) ?_; conv => whnf) | (refine w64 ?_; conv => whnf) | (apply pcall; (focus (intro _ _ hk; first | exact w64 hk)); conv => whnf) | (refine And.intro ?_ ?_; (focus ((first | omega | decide | (simp (disch := omega) only [List.getD_eq_getElem?_getD, Int.toNat_natCast, toNat_sub1, toNat_add1, CK.norm, big, dVs_len, dCh_len, dStr_len, dVs_0, dVs_1, dCh_0, dStr_0, Nat.zero_add, List.length_map, List.length_take, List.length_append, List.length_cons, List.length_nil, List.length_replicate, not_true_eq_false, wrapI] <;> omega) | (simp [strOf, List.getD_eq_getElem?_getD, Int.toNat_natCast, toNat_sub1, toNat_add1, CK.norm, big, dVs_len, dCh_len, dStr_len, dVs_0, dVs_1, dCh_0, dStr_0, Nat.zero_add, List.length_map, List.length_take, List.length_append, List.length_cons, List.length_nil, List.length_replicate, not_true_eq_false] <;> omega) | exact Nat.le_of_ble_eq_true rfl | rfl); done)); conv => whnf) | (rw [vv]; conv => whnf) | (refine NilP.mk fun nb hnb => ?_; conv => whnf))
  · have hc : stOK (cs, now) = false := by simpa using hc
    simpa [slR, hc, dStr] using h 0
  · have hc : stOK (cs, now) = true := by simpa using hc
    refine w65 hP hc hs fun ver => ?_
    (conv => whnf); repeat' (first | ((first | refine bdec ?_ ?_ | refine bnot ?_ ?_ | refine bsel_intro ?_ ?_ | skip) <;> intro hc <;> (try simp (disch := omega) only [List.getD_eq_getElem?_getD, Int.toNat_natCast, toNat_sub1, toNat_add1, CK.norm, big, dVs_len, dCh_len, dStr_len, dVs_0, dVs_1, dCh_0, dStr_0, Nat.zero_add, List.length_map, List.length_take, List.length_append, List.length_cons, List.length_nil, List.length_replicate, not_true_eq_false, wrapI] at hc) <;> conv => whnf) | (refine .head _ rfl (by kernel_rfl) ?_; conv => whnf) | (refine And.intro ?_ ?_; (focus ((first | omega | decide | (simp (disch := omega) only [List.getD_eq_getElem?_getD, Int.toNat_natCast, toNat_sub1, toNat_add1, CK.norm, big, dVs_len, dCh_len, dStr_len, dVs_0, dVs_1, dCh_0, dStr_0, Nat.zero_add, List.length_map, List.length_take, List.length_append, List.length_cons, List.length_nil, List.length_replicate, not_true_eq_false, wrapI] <;> omega) | (simp [strOf, List.getD_eq_getElem?_getD, Int.toNat_natCast, toNat_sub1, toNat_add1, CK.norm, big, dVs_len, dCh_len, dStr_len, dVs_0, dVs_1, dCh_0, dStr_0, Nat.zero_add, List.length_map, List.length_take, List.length_append, List.length_cons, List.length_nil, List.length_replicate, not_true_eq_false] <;> omega) | exact Nat.le_of_ble_eq_true rfl | rfl); done)); conv => whnf) | (rw [vv]; conv => whnf) | (refine NilP.mk fun nb hnb => ?_; conv => whnf))
    simpa [slR, hc] using h ver
end Go.Proofs.SL
