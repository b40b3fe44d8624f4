/- Contracts of functions of this program, by the evaluator EN; part KO. No conditions but those that each theorem states. -/
import Derived.Test.YtekcghhacpllaaaGreatDoorKN
set_option linter.unusedVariables false
set_option linter.unusedSimpArgs false
set_option maxRecDepth 100000
set_option maxHeartbeats 8000000
namespace Go.Proofs.SL
open Go Go.Proofs Go.Proofs.EN Go.Proofs.VT
variable {T : Tabs}
theorem w88 {t : Str} {Kr Kp : C → List Ob → R} (h : Kr (.d (.bool (decide (65536 < t.length)))) []) : Wp T Tryz.prog tt 88 [.d (.str t)] [] Kr Kp := by
  refine go (k := 88) (own := true) (cap := .deep) Tryz.func88 (by kernel_rfl) ?_
  (conv => whnf); repeat' (first | ((first | refine bdec ?_ ?_ | refine bnot ?_ ?_ | refine bsel_intro ?_ ?_ | skip) <;> intro hc <;> (try simp (disch := omega) only [nm, dArgDefs_len, dFieldDefs_len, dTypeDefs_len, dToks_len, dToks_0, dToks_1, dToks_2, Nat.reduceAdd, wrapI] at hc) <;> conv => whnf) | (refine .head _ rfl (by kernel_rfl) ?_; conv => whnf) | (refine And.intro ?_ ?_; (focus ((first | omega | decide | (simp (disch := omega) only [nm, dArgDefs_len, dFieldDefs_len, dTypeDefs_len, dToks_len, dToks_0, dToks_1, dToks_2, Nat.reduceAdd, wrapI] <;> omega) | (simp [strOf, nm, dArgDefs_len, dFieldDefs_len, dTypeDefs_len, dToks_len, dToks_0, dToks_1, dToks_2, Nat.reduceAdd] <;> omega) | exact Nat.le_of_ble_eq_true rfl | rfl); done)); conv => whnf) | (rw [vv]; conv => whnf) | (refine NilP.mk fun nb hnb => ?_; conv => whnf))
  refine krB h ?_; rw [decide_eq_decide]; omega
theorem w123 {t : Str} {Kr Kp : C → List Ob → R} (h : Kr (.d (.int .i64 (if 65536 < t.length then 0 else -1))) []) : Wp T Tryz.prog tt 123 [.d (.list 9 (dStr [t])), .func 88 []] [] Kr Kp := by
  refine go (k := 123) (own := true) (cap := .deep) Tryz.func123 (by kernel_rfl) ?_
  (conv => whnf); repeat' (first | ((first | refine bdec ?_ ?_ | refine bnot ?_ ?_ | refine bsel_intro ?_ ?_ | skip) <;> intro hc <;> (try simp (disch := omega) only [nm, dArgDefs_len, dFieldDefs_len, dTypeDefs_len, dToks_len, dToks_0, dToks_1, dToks_2, Nat.reduceAdd, wrapI] at hc) <;> conv => whnf) | (refine .head _ rfl (by kernel_rfl) ?_; conv => whnf) | (refine And.intro ?_ ?_; (focus ((first | omega | decide | (simp (disch := omega) only [nm, dArgDefs_len, dFieldDefs_len, dTypeDefs_len, dToks_len, dToks_0, dToks_1, dToks_2, Nat.reduceAdd, wrapI] <;> omega) | (simp [strOf, nm, dArgDefs_len, dFieldDefs_len, dTypeDefs_len, dToks_len, dToks_0, dToks_1, dToks_2, Nat.reduceAdd] <;> omega) | exact Nat.le_of_ble_eq_true rfl | rfl); done)); conv => whnf) | (rw [vv]; conv => whnf) | (refine NilP.mk fun nb hnb => ?_; conv => whnf))
  refine loopOf (fun i : Nat => ⟨[(0, .d (.list 9 (dStr [t]))), (1, .func 88 []), (7, .d (.int .i64 ((dStr [t]).length : Int))), (8, .d (.int .i64 (i : Int)))], []⟩) (fun i => i ≤ 1 ∧ (i = 1 → ¬ 65536 < t.length)) (fun i => 1 - i) 0 rfl ⟨by omega, by omega⟩ ?_
  intro i I hi rec
  rcases Nat.eq_zero_or_pos i with rfl | h0
  · (conv => whnf); repeat' (first | ((first | refine bdec ?_ ?_ | refine bnot ?_ ?_ | refine bsel_intro ?_ ?_ | skip) <;> intro hc <;> (try simp (disch := omega) only [nm, dArgDefs_len, dFieldDefs_len, dTypeDefs_len, dToks_len, dToks_0, dToks_1, dToks_2, Nat.reduceAdd, wrapI] at hc) <;> conv => whnf) | (refine .head _ rfl (by kernel_rfl) ?_; conv => whnf) | (refine w88 ?_; conv => whnf) | (apply pcall; (focus (intro _ _ hk; first | exact w88 hk)); conv => whnf) | (refine And.intro ?_ ?_; (focus ((first | omega | decide | (simp (disch := omega) only [nm, dArgDefs_len, dFieldDefs_len, dTypeDefs_len, dToks_len, dToks_0, dToks_1, dToks_2, Nat.reduceAdd, wrapI] <;> omega) | (simp [strOf, nm, dArgDefs_len, dFieldDefs_len, dTypeDefs_len, dToks_len, dToks_0, dToks_1, dToks_2, Nat.reduceAdd] <;> omega) | exact Nat.le_of_ble_eq_true rfl | rfl); done)); conv => whnf) | (rw [vv]; conv => whnf) | (refine NilP.mk fun nb hnb => ?_; conv => whnf))
    · have hc : 65536 < t.length := hc
      rw [if_pos hc] at h; exact h
    · refine eqI (rec 1 ⟨by omega, fun _ => hc⟩ (by omega)) ?_
      simp (disch := omega) only [wrapI]; rfl
  · obtain rfl : i = 1 := by omega
    (conv => whnf); repeat' (first | ((first | refine bdec ?_ ?_ | refine bnot ?_ ?_ | refine bsel_intro ?_ ?_ | skip) <;> intro hc <;> (try simp (disch := omega) only [nm, dArgDefs_len, dFieldDefs_len, dTypeDefs_len, dToks_len, dToks_0, dToks_1, dToks_2, Nat.reduceAdd, wrapI] at hc) <;> conv => whnf) | (refine .head _ rfl (by kernel_rfl) ?_; conv => whnf) | (refine And.intro ?_ ?_; (focus ((first | omega | decide | (simp (disch := omega) only [nm, dArgDefs_len, dFieldDefs_len, dTypeDefs_len, dToks_len, dToks_0, dToks_1, dToks_2, Nat.reduceAdd, wrapI] <;> omega) | (simp [strOf, nm, dArgDefs_len, dFieldDefs_len, dTypeDefs_len, dToks_len, dToks_0, dToks_1, dToks_2, Nat.reduceAdd] <;> omega) | exact Nat.le_of_ble_eq_true rfl | rfl); done)); conv => whnf) | (rw [vv]; conv => whnf) | (refine NilP.mk fun nb hnb => ?_; conv => whnf))
    rw [if_neg (hi.2 rfl)] at h; exact h
theorem w87 {t : Str} {Kr Kp : C → List Ob → R} (h : Kr (.d (.bool (decide (65536 < t.length)))) []) : Wp T Tryz.prog tt 87 [.d (.list 9 (dStr [t])), .func 88 []] [] Kr Kp := by
  refine go (k := 87) (own := true) (cap := .deep) Tryz.func87 (by kernel_rfl) ?_
  (conv => whnf); repeat' (first | ((first | refine bdec ?_ ?_ | refine bnot ?_ ?_ | refine bsel_intro ?_ ?_ | skip) <;> intro hc <;> (try simp (disch := omega) only [nm, dArgDefs_len, dFieldDefs_len, dTypeDefs_len, dToks_len, dToks_0, dToks_1, dToks_2, Nat.reduceAdd, wrapI] at hc) <;> conv => whnf) | (refine .head _ rfl (by kernel_rfl) ?_; conv => whnf) | (refine w123 ?_; conv => whnf) | (apply pcall; (focus (intro _ _ hk; first | exact w123 hk)); conv => whnf) | (refine And.intro ?_ ?_; (focus ((first | omega | decide | (simp (disch := omega) only [nm, dArgDefs_len, dFieldDefs_len, dTypeDefs_len, dToks_len, dToks_0, dToks_1, dToks_2, Nat.reduceAdd, wrapI] <;> omega) | (simp [strOf, nm, dArgDefs_len, dFieldDefs_len, dTypeDefs_len, dToks_len, dToks_0, dToks_1, dToks_2, Nat.reduceAdd] <;> omega) | exact Nat.le_of_ble_eq_true rfl | rfl); done)); conv => whnf) | (rw [vv]; conv => whnf) | (refine NilP.mk fun nb hnb => ?_; conv => whnf))
  refine krB h ?_; split <;> simp_all
theorem w46 {t : Str} {Kr Kp : C → List Ob → R} (h : Kr (.d (.bool (decide (t.length ≤ 65536)))) []) : Wp T Tryz.prog tt 46 [.d (.list 9 (dStr [t]))] [] Kr Kp := by
  refine go (k := 46) (own := true) (cap := .deep) Tryz.func46 (by kernel_rfl) ?_
  (conv => whnf); repeat' (first | ((first | refine bdec ?_ ?_ | refine bnot ?_ ?_ | refine bsel_intro ?_ ?_ | skip) <;> intro hc <;> (try simp (disch := omega) only [nm, dArgDefs_len, dFieldDefs_len, dTypeDefs_len, dToks_len, dToks_0, dToks_1, dToks_2, Nat.reduceAdd, wrapI] at hc) <;> conv => whnf) | (refine .head _ rfl (by kernel_rfl) ?_; conv => whnf) | (refine w87 ?_; conv => whnf) | (apply pcall; (focus (intro _ _ hk; first | exact w87 hk)); conv => whnf) | (refine And.intro ?_ ?_; (focus ((first | omega | decide | (simp (disch := omega) only [nm, dArgDefs_len, dFieldDefs_len, dTypeDefs_len, dToks_len, dToks_0, dToks_1, dToks_2, Nat.reduceAdd, wrapI] <;> omega) | (simp [strOf, nm, dArgDefs_len, dFieldDefs_len, dTypeDefs_len, dToks_len, dToks_0, dToks_1, dToks_2, Nat.reduceAdd] <;> omega) | exact Nat.le_of_ble_eq_true rfl | rfl); done)); conv => whnf) | (rw [vv]; conv => whnf) | (refine NilP.mk fun nb hnb => ?_; conv => whnf))
  refine krB h ?_
  rw [show decide (65536 < t.length) = !decide (t.length ≤ 65536) by rw [← decide_not, decide_eq_decide]; omega]; simp
/-- The rest, behind what is passed over. -/
def lexU (n : Nat) (u : Str) : Option (List Tok) := if u = [] then some [] else match tokO u with
  | none => none
  | some (k, m) => match lexO n (u.drop m) with
    | some r => some (k :: r)
    | none => none
theorem lexO_succ (n : Nat) (t : Str) : lexO (n + 1) t = lexU n (t.drop (passN t)) := rfl
theorem tokO_le {t : Str} {k : Tok} {m : Nat} (h : tokO t = some (k, m)) : m ≤ t.length := by
  unfold tokO at h
  split at h
  · cases h
  rename_i c r
  split at h
  · split at h
    · cases h; exact wordN_le _
    · cases h
  split at h
  · cases h
  split at h
  · rename_i p hp
    cases h
    have := List.find?_some hp
    have := congrArg List.length (of_decide_eq_true this)
    rw [List.length_take] at this
    omega
  · cases h
theorem w81 {t : Str} {n : Nat} {tk : List Tok} {Kr Kp : C → List Ob → R} (ht : t.length ≤ 1048576) (h35 : ∀ c ∈ t, c.toNat ≠ 35) (hx : lexO n t = some tk) (hk : tk.length ≤ 4000) (h : ∀ ver, Kr (.tuple [.row 0, .d (.int .i64 0)]) [.row 74 .deep ver (dToks tk)]) : Wp T Tryz.prog tt 81 [.d (.str t)] [] Kr Kp := by
  have hp := passN_le t
  obtain ⟨n, rfl⟩ : ∃ m, n = m + 1 := by cases n with | zero => cases hx | succ n => exact ⟨n, rfl⟩
  rw [lexO_succ] at hx
  refine go (k := 81) (own := true) (cap := .deep) Tryz.func81 (by kernel_rfl) ?_
  (conv => whnf); repeat' (first | ((first | refine bdec ?_ ?_ | refine bnot ?_ ?_ | refine bsel_intro ?_ ?_ | skip) <;> intro hc <;> (try simp (disch := omega) only [nm, dArgDefs_len, dFieldDefs_len, dTypeDefs_len, dToks_len, dToks_0, dToks_1, dToks_2, Nat.reduceAdd, wrapI] at hc) <;> conv => whnf) | (refine .head _ rfl (by kernel_rfl) ?_; conv => whnf) | (refine w119 ht h35 ?_; conv => whnf) | (apply pcall; (focus (intro _ _ hk; first | exact w119 ht h35 hk)); conv => whnf) | (refine And.intro ?_ ?_; (focus ((first | omega | decide | (simp (disch := omega) only [nm, dArgDefs_len, dFieldDefs_len, dTypeDefs_len, dToks_len, dToks_0, dToks_1, dToks_2, Nat.reduceAdd, wrapI] <;> omega) | (simp [strOf, nm, dArgDefs_len, dFieldDefs_len, dTypeDefs_len, dToks_len, dToks_0, dToks_1, dToks_2, Nat.reduceAdd] <;> omega) | exact Nat.le_of_ble_eq_true rfl | rfl); done)); conv => whnf) | (rw [vv]; conv => whnf) | (refine NilP.mk fun nb hnb => ?_; conv => whnf))
  refine loopOf3 (fun (m : Nat) (u : Str) (acc : List Tok) => ⟨[(0, .d (.str u)), (4, .row 0)], [.row 74 .deep 0 (dToks acc)]⟩) (fun m u acc => (∃ r, lexU m u = some r ∧ acc ++ r = tk) ∧ u.length ≤ 1048576 ∧ ∀ c ∈ u, c.toNat ≠ 35) (fun m _ _ => m) n (t.drop (passN t)) [] (by simp only [Int.toNat_natCast, List.take_length]; rfl) ⟨⟨tk, hx, rfl⟩, by simp only [List.length_drop]; omega, fun c hc => h35 c (List.mem_of_mem_drop hc)⟩ ?_
  intro m u acc I ⟨⟨r, hu, hacc⟩, hul, hu35⟩ rec
  by_cases hu0 : u = []
  · subst hu0
    obtain rfl : r = [] := by simpa [lexU] using hu.symm
    rw [List.append_nil] at hacc
    subst hacc
    (conv => whnf); repeat' (first | ((first | refine bdec ?_ ?_ | refine bnot ?_ ?_ | refine bsel_intro ?_ ?_ | skip) <;> intro hc <;> (try simp (disch := omega) only [nm, dArgDefs_len, dFieldDefs_len, dTypeDefs_len, dToks_len, dToks_0, dToks_1, dToks_2, Nat.reduceAdd, wrapI] at hc) <;> conv => whnf) | (refine .head _ rfl (by kernel_rfl) ?_; conv => whnf) | (refine And.intro ?_ ?_; (focus ((first | omega | decide | (simp (disch := omega) only [nm, dArgDefs_len, dFieldDefs_len, dTypeDefs_len, dToks_len, dToks_0, dToks_1, dToks_2, Nat.reduceAdd, wrapI] <;> omega) | (simp [strOf, nm, dArgDefs_len, dFieldDefs_len, dTypeDefs_len, dToks_len, dToks_0, dToks_1, dToks_2, Nat.reduceAdd] <;> omega) | exact Nat.le_of_ble_eq_true rfl | rfl); done)); conv => whnf) | (rw [vv]; conv => whnf) | (refine NilP.mk fun nb hnb => ?_; conv => whnf))
    exact h _
  rw [lexU, if_neg hu0] at hu
  split at hu
  · cases hu
  rename_i k j hj
  split at hu
  · rename_i r2 hr2
    obtain rfl : k :: r2 = r := Option.some.inj hu
    have hjl := tokO_le hj
    obtain ⟨m, rfl⟩ : ∃ q, m = q + 1 := by cases m with | zero => cases hr2 | succ q => exact ⟨q, rfl⟩
    rw [lexO_succ] at hr2
    have hlen : acc.length + (r2.length + 1) ≤ 4000 := by rw [← hacc] at hk; simpa using hk
    have hd : (u.drop j).length = u.length - j := List.length_drop ..
    have hp2 := passN_le (u.drop j)
    (conv => whnf); repeat' (first | ((first | refine bdec ?_ ?_ | refine bnot ?_ ?_ | refine bsel_intro ?_ ?_ | skip) <;> intro hc <;> (try simp (disch := omega) only [nm, dArgDefs_len, dFieldDefs_len, dTypeDefs_len, dToks_len, dToks_0, dToks_1, dToks_2, Nat.reduceAdd, wrapI] at hc) <;> conv => whnf) | (refine aheadAt 81 (by kernel_rfl) (by kernel_rfl) ?_; conv => whnf) | (refine PAnd.mk ?_ ?_ <;> conv => whnf) | exact PTrue.mk | (refine .head _ rfl (by kernel_rfl) ?_; conv => whnf) | (refine w120 hul hj ?_; conv => whnf) | (refine wpArgs (xs' := [.d (.str (u.drop j))]) (by simp only [Int.toNat_natCast, List.take_length]) (w119 (by omega) (fun c hc => hu35 c (List.mem_of_mem_drop hc)) ?_) <;> conv => whnf) | (apply pcall; (focus (intro _ _ hk; first | exact w120 hul hj hk | exact wpArgs (xs' := [.d (.str (u.drop j))]) (by simp only [Int.toNat_natCast, List.take_length]) (w119 (by omega) (fun c hc => hu35 c (List.mem_of_mem_drop hc)) ?_) hk)); conv => whnf) | (refine And.intro ?_ ?_; (focus ((first | omega | decide | (simp (disch := omega) only [nm, dArgDefs_len, dFieldDefs_len, dTypeDefs_len, dToks_len, dToks_0, dToks_1, dToks_2, Nat.reduceAdd, wrapI] <;> omega) | (simp [strOf, nm, dArgDefs_len, dFieldDefs_len, dTypeDefs_len, dToks_len, dToks_0, dToks_1, dToks_2, Nat.reduceAdd] <;> omega) | exact Nat.le_of_ble_eq_true rfl | rfl); done)); conv => whnf) | (rw [vv]; conv => whnf) | (refine NilP.mk fun nb hnb => ?_; conv => whnf))
    · exfalso; omega
    all_goals try (exfalso; exact hu0 ‹u = []›)
    all_goals
      refine eqI (rec m _ (acc ++ [k]) ⟨⟨r2, hr2, by simp [← hacc]⟩, by simp only [List.length_drop]; omega, fun c hc => hu35 c (List.mem_of_mem_drop (List.mem_of_mem_drop hc))⟩ (by omega)) ?_
      simp only [Int.toNat_natCast, List.take_length]
      simp [dToks, dTok]
  · cases hu
theorem w44 {t : Str} {n : Nat} {tk : List Tok} {Kr Kp : C → List Ob → R} (ht : t.length ≤ 65536) (h35 : ∀ c ∈ t, c.toNat ≠ 35) (hx : lexO n t = some tk) (hk : tk.length ≤ 4000) (h : Kr (.tuple [.d (.list 74 (dToks tk)), .d (.int .i64 0)]) []) : Wp T Tryz.prog tt 44 [.d (.str t)] [] Kr Kp := by
  refine go (k := 44) (own := false) (cap := .deep) Tryz.func44 (by kernel_rfl) ?_
  (conv => whnf); repeat' (first | ((first | refine bdec ?_ ?_ | refine bnot ?_ ?_ | refine bsel_intro ?_ ?_ | skip) <;> intro hc <;> (try simp (disch := omega) only [nm, dArgDefs_len, dFieldDefs_len, dTypeDefs_len, dToks_len, dToks_0, dToks_1, dToks_2, Nat.reduceAdd, wrapI] at hc) <;> conv => whnf) | (refine .head _ rfl (by kernel_rfl) ?_; conv => whnf) | (refine w81 (by omega) h35 hx hk fun ver => ?_ <;> conv => whnf) | (refine wpArgs (xs' := [.d (.list 9 (dStr [t]))]) rfl (w46 ?_) <;> conv => whnf) | (apply pcall; (focus (intro _ _ hk; first | exact w81 (by omega) h35 hx hk fun ver => ?_ hk | exact wpArgs (xs' := [.d (.list 9 (dStr [t]))]) rfl (w46 ?_) hk)); conv => whnf) | (refine And.intro ?_ ?_; (focus ((first | omega | decide | (simp (disch := omega) only [nm, dArgDefs_len, dFieldDefs_len, dTypeDefs_len, dToks_len, dToks_0, dToks_1, dToks_2, Nat.reduceAdd, wrapI] <;> omega) | (simp [strOf, nm, dArgDefs_len, dFieldDefs_len, dTypeDefs_len, dToks_len, dToks_0, dToks_1, dToks_2, Nat.reduceAdd] <;> omega) | exact Nat.le_of_ble_eq_true rfl | rfl); done)); conv => whnf) | (rw [vv]; conv => whnf) | (refine NilP.mk fun nb hnb => ?_; conv => whnf))
  · exact absurd ht hc
  · exact h
end Go.Proofs.SL
