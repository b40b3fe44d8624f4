/- Contracts of functions of this program, by the evaluator EN. No conditions but those that each theorem states. -/
import Derived.Test.YtekcghhacpllaaaGreatDoorME
import Derived.Test.YtekcghhacpllaaaGreatDoorLD
import Derived.Test.YtekcghhacpllaaaGreatDoorGD
import Derived.Test.YtekcghhacpllaaaGreatDoorLE
import Derived.Test.YtekcghhacpllaaaGreatDoorLN
import Derived.Test.YtekcghhacpllaaaGreatDoorEHd
set_option linter.unusedVariables false
set_option linter.unusedSimpArgs false
set_option maxRecDepth 100000
set_option maxHeartbeats 8000000
namespace Go.Proofs.SL
open Go Go.Proofs Go.Proofs.EN Go.Proofs.VT
variable {T : Tabs}
/-- A definition that is small. -/
def dSm (x : QDef) : Prop := (x.1 = 1 ∨ x.1 = 2 ∨ x.1 = 3) ∧ x.2.1.length ≤ 40 ∧ x.2.2.1.length ≤ 40 ∧ smL x.2.2.2 ∧ qCnt x.2.2.2 ≤ 120
theorem dSm_doc {d : QDoc} (h : ∀ x ∈ d, dSm x) (hl : d.length ≤ 6) : (∀ x ∈ d, defP x) ∧ (docT d).length ≤ 10000000 := by
  have hp : ∀ x ∈ d, defP x := fun x hx => by
    obtain ⟨h1, h2, h3, h4, h5⟩ := h x hx
    obtain ⟨b1, b2⟩ := smL_text h4 (by omega)
    refine ⟨by omega, b1, ?_⟩
    have hkw : (kwT x.1).length ≤ 10 := by unfold kwT; split <;> (try split) <;> (try split) <;> simp
    have : (if x.2.1 = [] then ([] : Str) else 32 :: x.2.1).length ≤ 41 := by split <;> simp; omega
    have : (if x.1 = 3 then [32, 111, 110, 32] ++ x.2.2.1 else ([] : Str)).length ≤ 44 := by
      split
      · simp; omega
      · simp
    simp only [defT, List.length_append, List.length_cons, List.length_nil] at *
    omega
  refine ⟨hp, ?_⟩
  have := join_len (B := 1000000) (d.map defT) (fun w hw => by obtain ⟨x, hx, rfl⟩ := List.mem_map.1 hw; exact (hp x hx).2.2) d.length (by simp)
  rw [List.take_of_length_le (by simp)] at this
  have : d.length * (1000000 + 1) ≤ 6 * (1000000 + 1) := Nat.mul_le_mul_right _ (by omega)
  rw [docT]; omega
theorem dSm1 {k : Int} {w o : Str} {ss : List QSel} (hk : k = 1 ∨ k = 2 ∨ k = 3) (hw : w.length ≤ 40) (ho : o.length ≤ 40) (hs : smL ss) (hq : qCnt ss ≤ 120) : ∀ x ∈ [((k, w, o, ss) : QDef)], dSm x := by
  intro x hx
  rw [List.mem_singleton.1 hx]
  exact ⟨hk, hw, ho, hs, hq⟩
abbrev fDef (sub : List QSel) : QDef := (3, [102], [78, 111, 100, 101], sub)
abbrev gSels : List QSel := [⟨1, [], [118, 97, 108, 117, 101], [], [], []⟩]
abbrev gDef : QDef := (3, [103], [78, 111, 100, 101], gSels)
abbrev sizeDoc : QDoc := [(1, [], [], [⟨1, [], [115, 105, 122, 101], [], [], []⟩])]
theorem sizeDoc_ok : docB sizeDoc = true := by kernel_rfl
theorem dSm2 {x y : QDef} (hx : ∀ z ∈ [x], dSm z) (hy : ∀ z ∈ [y], dSm z) : ∀ z ∈ [x, y], dSm z := by
  intro z hz
  rcases List.mem_cons.1 hz with rfl | hz
  · exact hx _ (List.mem_singleton.2 rfl)
  · exact hy _ hz
theorem w147 {t : Str} {a s : Int} {Kr Kp : C → List Ob → R} (hs : okA' 20000000 a s) (h : ∀ (d : QDoc) a' s', docB d = true → stS 50000 a a' s' → Kr (cDoc d) [oS t a' s']) : Wp T Tryz.prog tt 147 [.ref 0 0] [oS t a s] Kr Kp := by
  refine go (k := 147) (own := false) (cap := .deep) Tryz.func147 (by kernel_rfl) ?_
  (conv => whnf); repeat' (first | (have hw00 := w0; refine aheadAtB 147 (by kernel_rfl) (by kernel_rfl) ?_; conv => whnf) | ((first | refine bdec ?_ ?_ | refine bnot ?_ ?_ | refine bsel_intro ?_ ?_ | skip) <;> intro hc <;> (try simp (disch := omega) only [nm, dQArgs_len, dQDirs_len, dQSels_len, dQDefs_len, dQDefs_0, dQDefs_1, dQDefs_2, dQDefs_3, dBy_len, dBy_0, Nat.reduceAdd, wrapI] at hc) <;> conv => whnf) | (refine .head _ rfl (by kernel_rfl) ?_; conv => whnf) | (refine aheadAtB 147 (by kernel_rfl) (by kernel_rfl) ?_; conv => whnf) | (refine PAnd.mk ?_ ?_ <;> conv => whnf) | exact PTrue.mk | (refine .head _ rfl (by kernel_rfl) ?_; conv => whnf) | (refine (fun hq => wpArgs (xs' := [cDoc [(1 + k0, w0, [], ss)]]) (by rw [wrapI (by omega) (by omega)]; rfl) (w144 (by simp) (dSm_doc (dSm1 (k := 1 + k0) (o := []) (by omega) hw0 (by simp) hs4 hq4) (by simp)).1 (by have := (dSm_doc (dSm1 (k := 1 + k0) (w := w0) (o := []) (by omega) hw0 (by simp) hs4 hq4) (by simp)).2; omega) hq)) ?_; conv => whnf) | (refine (fun hq => w162 (by have := (dSm_doc (dSm1 (k := 1 + k0) (w := w0) (o := []) (by omega) hw0 (by simp) hs4 hq4) (by simp)).2; omega) (by simp) hq) (fun ub => ?_) <;> conv => whnf) | (refine xchance (by omega) (by omega) (fun cb a7 s7 q7 => ?_) <;> conv => whnf) | (refine (fun hq => wpArgs (xs' := [.ref 0 0, .d (.int .i64 ((0 : Nat) : Int))]) rfl (w163 0 (by omega) (by omega) hq)) (fun sub a6 s6 hs6 hq6 hl6 q6 ver6 => ?_) <;> conv => whnf) | (refine xnext (by omega) (by omega) (fun k0 a0 s0 k1 k2 q1 => ?_) <;> conv => whnf) | (refine xpick (by omega) (by rfl) (by decide) (by rfl) (fun w0 a3 s3 hw0 q2 => ?_) <;> conv => whnf) | (refine w161 (by omega) (fun ss a4 s4 hs4 hq4 hl4 q4 => ?_) <;> conv => whnf) | (apply pcall; (focus (intro _ _ hk; first | exact (fun hq => wpArgs (xs' := [cDoc [(1 + k0, w0, [], ss)]]) (by rw [wrapI (by omega) (by omega)]; rfl) (w144 (by simp) (dSm_doc (dSm1 (k := 1 + k0) (o := []) (by omega) hw0 (by simp) hs4 hq4) (by simp)).1 (by have := (dSm_doc (dSm1 (k := 1 + k0) (w := w0) (o := []) (by omega) hw0 (by simp) hs4 hq4) (by simp)).2; omega) hq)) hk | exact (fun hq => w162 (by have := (dSm_doc (dSm1 (k := 1 + k0) (w := w0) (o := []) (by omega) hw0 (by simp) hs4 hq4) (by simp)).2; omega) (by simp) hq) (fun ub => ?_) hk | exact xchance (by omega) (by omega) (fun cb a7 s7 q7 => ?_) hk | exact (fun hq => wpArgs (xs' := [.ref 0 0, .d (.int .i64 ((0 : Nat) : Int))]) rfl (w163 0 (by omega) (by omega) hq)) (fun sub a6 s6 hs6 hq6 hl6 q6 ver6 => ?_) hk | exact xnext (by omega) (by omega) (fun k0 a0 s0 k1 k2 q1 => ?_) hk | exact xpick (by omega) (by rfl) (by decide) (by rfl) (fun w0 a3 s3 hw0 q2 => ?_) hk | exact w161 (by omega) (fun ss a4 s4 hs4 hq4 hl4 q4 => ?_) hk)); conv => whnf) | (refine And.intro ?_ ?_; (focus ((first | omega | decide | (simp (disch := omega) only [nm, dQArgs_len, dQDirs_len, dQSels_len, dQDefs_len, dQDefs_0, dQDefs_1, dQDefs_2, dQDefs_3, dBy_len, dBy_0, Nat.reduceAdd, wrapI] <;> omega) | (simp [strOf, nm, dQArgs_len, dQDirs_len, dQSels_len, dQDefs_len, dQDefs_0, dQDefs_1, dQDefs_2, dQDefs_3, dBy_len, dBy_0, Nat.reduceAdd] <;> omega) | exact Nat.le_of_ble_eq_true rfl | rfl); done)); conv => whnf) | (rw [vv]; conv => whnf) | (refine NilP.mk fun nb hnb => ?_; conv => whnf))
  all_goals
    have hb0 : bB 0 ≤ 1000 := by decide
    have hq0 : bQ 0 ≤ 120 := by decide
    have sm0 := dSm1 (k := 1 + k0) (w := w0) (o := []) (ss := ss) (by omega) hw0 (by simp) hs4 hq4
  iterate 2
    rotate_left 0
    · have sm1 := dSm_doc (dSm2 sm0 (dSm1 (k := 3) (w := [102]) (o := [78, 111, 100, 101]) (ss := sub) (by omega) (by decide) (by decide) hs6 (by omega))) (by simp)
      refine wpArgs (xs' := [cDoc [(1 + k0, w0, [], ss), fDef sub]]) (by rw [wrapI (by omega) (by omega)]; rfl) (w144 (by simp) sm1.1 (Nat.le_trans sm1.2 (by decide)) ?_)
      (conv => whnf); repeat' (first | ((first | refine bdec ?_ ?_ | refine bnot ?_ ?_ | refine bsel_intro ?_ ?_ | skip) <;> intro hc <;> (try simp (disch := omega) only [nm, dQArgs_len, dQDirs_len, dQSels_len, dQDefs_len, dQDefs_0, dQDefs_1, dQDefs_2, dQDefs_3, dBy_len, dBy_0, Nat.reduceAdd, wrapI] at hc) <;> conv => whnf) | (refine .head _ rfl (by kernel_rfl) ?_; conv => whnf) | (refine (fun hq => w162 (Nat.le_trans sm1.2 (by decide)) (by simp) hq) (fun ub2 => ?_) <;> conv => whnf) | (apply pcall; (focus (intro _ _ hk; first | exact (fun hq => w162 (Nat.le_trans sm1.2 (by decide)) (by simp) hq) (fun ub2 => ?_) hk)); conv => whnf) | (refine And.intro ?_ ?_; (focus ((first | omega | decide | (simp (disch := omega) only [nm, dQArgs_len, dQDirs_len, dQSels_len, dQDefs_len, dQDefs_0, dQDefs_1, dQDefs_2, dQDefs_3, dBy_len, dBy_0, Nat.reduceAdd, wrapI] <;> omega) | (simp [strOf, nm, dQArgs_len, dQDirs_len, dQSels_len, dQDefs_len, dQDefs_0, dQDefs_1, dQDefs_2, dQDefs_3, dBy_len, dBy_0, Nat.reduceAdd] <;> omega) | exact Nat.le_of_ble_eq_true rfl | rfl); done)); conv => whnf) | (rw [vv]; conv => whnf) | (refine NilP.mk fun nb hnb => ?_; conv => whnf))
      · refine wpArgs (xs' := [cDoc [(1 + k0, w0, [], ss), fDef sub, gDef]]) (by rw [wrapI (by omega) (by omega)]; rfl) (w164 ?_)
        (conv => whnf); repeat' (first | ((first | refine bdec ?_ ?_ | refine bnot ?_ ?_ | refine bsel_intro ?_ ?_ | skip) <;> intro hc <;> (try simp (disch := omega) only [nm, dQArgs_len, dQDirs_len, dQSels_len, dQDefs_len, dQDefs_0, dQDefs_1, dQDefs_2, dQDefs_3, dBy_len, dBy_0, Nat.reduceAdd, wrapI] at hc) <;> conv => whnf) | (refine .head _ rfl (by kernel_rfl) ?_; conv => whnf) | (refine And.intro ?_ ?_; (focus ((first | omega | decide | (simp (disch := omega) only [nm, dQArgs_len, dQDirs_len, dQSels_len, dQDefs_len, dQDefs_0, dQDefs_1, dQDefs_2, dQDefs_3, dBy_len, dBy_0, Nat.reduceAdd, wrapI] <;> omega) | (simp [strOf, nm, dQArgs_len, dQDirs_len, dQSels_len, dQDefs_len, dQDefs_0, dQDefs_1, dQDefs_2, dQDefs_3, dBy_len, dBy_0, Nat.reduceAdd] <;> omega) | exact Nat.le_of_ble_eq_true rfl | rfl); done)); conv => whnf) | (rw [vv]; conv => whnf) | (refine NilP.mk fun nb hnb => ?_; conv => whnf))
        · exact h sizeDoc _ _ sizeDoc_ok (by omega)
        · exact krC (h [(1 + k0, w0, [], ss), fDef sub, gDef] _ _ (by simpa using hc) (by omega)) (by rw [wrapI (by omega) (by omega)]; rfl)
      · refine wpArgs (xs' := [cDoc [(1 + k0, w0, [], ss), fDef sub]]) (by rw [wrapI (by omega) (by omega)]; rfl) (w164 ?_)
        (conv => whnf); repeat' (first | ((first | refine bdec ?_ ?_ | refine bnot ?_ ?_ | refine bsel_intro ?_ ?_ | skip) <;> intro hc <;> (try simp (disch := omega) only [nm, dQArgs_len, dQDirs_len, dQSels_len, dQDefs_len, dQDefs_0, dQDefs_1, dQDefs_2, dQDefs_3, dBy_len, dBy_0, Nat.reduceAdd, wrapI] at hc) <;> conv => whnf) | (refine .head _ rfl (by kernel_rfl) ?_; conv => whnf) | (refine And.intro ?_ ?_; (focus ((first | omega | decide | (simp (disch := omega) only [nm, dQArgs_len, dQDirs_len, dQSels_len, dQDefs_len, dQDefs_0, dQDefs_1, dQDefs_2, dQDefs_3, dBy_len, dBy_0, Nat.reduceAdd, wrapI] <;> omega) | (simp [strOf, nm, dQArgs_len, dQDirs_len, dQSels_len, dQDefs_len, dQDefs_0, dQDefs_1, dQDefs_2, dQDefs_3, dBy_len, dBy_0, Nat.reduceAdd] <;> omega) | exact Nat.le_of_ble_eq_true rfl | rfl); done)); conv => whnf) | (rw [vv]; conv => whnf) | (refine NilP.mk fun nb hnb => ?_; conv => whnf))
        · exact h sizeDoc _ _ sizeDoc_ok (by omega)
        · exact krC (h [(1 + k0, w0, [], ss), fDef sub] _ _ (by simpa using hc) (by omega)) (by rw [wrapI (by omega) (by omega)]; rfl)
  · refine wpArgs (xs' := [cDoc [(1 + k0, w0, [], ss), gDef]]) (by rw [wrapI (by omega) (by omega)]; rfl) (w164 ?_)
    (conv => whnf); repeat' (first | ((first | refine bdec ?_ ?_ | refine bnot ?_ ?_ | refine bsel_intro ?_ ?_ | skip) <;> intro hc <;> (try simp (disch := omega) only [nm, dQArgs_len, dQDirs_len, dQSels_len, dQDefs_len, dQDefs_0, dQDefs_1, dQDefs_2, dQDefs_3, dBy_len, dBy_0, Nat.reduceAdd, wrapI] at hc) <;> conv => whnf) | (refine .head _ rfl (by kernel_rfl) ?_; conv => whnf) | (refine And.intro ?_ ?_; (focus ((first | omega | decide | (simp (disch := omega) only [nm, dQArgs_len, dQDirs_len, dQSels_len, dQDefs_len, dQDefs_0, dQDefs_1, dQDefs_2, dQDefs_3, dBy_len, dBy_0, Nat.reduceAdd, wrapI] <;> omega) | (simp [strOf, nm, dQArgs_len, dQDirs_len, dQSels_len, dQDefs_len, dQDefs_0, dQDefs_1, dQDefs_2, dQDefs_3, dBy_len, dBy_0, Nat.reduceAdd] <;> omega) | exact Nat.le_of_ble_eq_true rfl | rfl); done)); conv => whnf) | (rw [vv]; conv => whnf) | (refine NilP.mk fun nb hnb => ?_; conv => whnf))
    · exact h sizeDoc _ _ sizeDoc_ok (by omega)
    · exact krC (h [(1 + k0, w0, [], ss), gDef] _ _ (by simpa using hc) (by omega)) (by rw [wrapI (by omega) (by omega)]; rfl)
  · refine wpArgs (xs' := [cDoc [(1 + k0, w0, [], ss)]]) (by rw [wrapI (by omega) (by omega)]; rfl) (w164 ?_)
    (conv => whnf); repeat' (first | ((first | refine bdec ?_ ?_ | refine bnot ?_ ?_ | refine bsel_intro ?_ ?_ | skip) <;> intro hc <;> (try simp (disch := omega) only [nm, dQArgs_len, dQDirs_len, dQSels_len, dQDefs_len, dQDefs_0, dQDefs_1, dQDefs_2, dQDefs_3, dBy_len, dBy_0, Nat.reduceAdd, wrapI] at hc) <;> conv => whnf) | (refine .head _ rfl (by kernel_rfl) ?_; conv => whnf) | (refine And.intro ?_ ?_; (focus ((first | omega | decide | (simp (disch := omega) only [nm, dQArgs_len, dQDirs_len, dQSels_len, dQDefs_len, dQDefs_0, dQDefs_1, dQDefs_2, dQDefs_3, dBy_len, dBy_0, Nat.reduceAdd, wrapI] <;> omega) | (simp [strOf, nm, dQArgs_len, dQDirs_len, dQSels_len, dQDefs_len, dQDefs_0, dQDefs_1, dQDefs_2, dQDefs_3, dBy_len, dBy_0, Nat.reduceAdd] <;> omega) | exact Nat.le_of_ble_eq_true rfl | rfl); done)); conv => whnf) | (rw [vv]; conv => whnf) | (refine NilP.mk fun nb hnb => ?_; conv => whnf))
    · exact h sizeDoc _ _ sizeDoc_ok (by omega)
    · exact krC (h [(1 + k0, w0, [], ss)] _ _ (by simpa using hc) (by omega)) (by rw [wrapI (by omega) (by omega)]; rfl)
end Go.Proofs.SL
set_option linter.unusedVariables false
set_option linter.unusedSimpArgs false
set_option maxRecDepth 100000
set_option maxHeartbeats 8000000
namespace Go.Proofs.SL
open Go Go.Proofs Go.Proofs.EN Go.Proofs.VT
variable {T : Tabs}
end Go.Proofs.SL
set_option linter.unusedVariables false
set_option linter.unusedSimpArgs false
set_option maxRecDepth 100000
set_option maxHeartbeats 8000000
namespace Go.Proofs.SL
open Go Go.Proofs Go.Proofs.EN Go.Proofs.VT
variable {T : Tabs}
def typOKb (ts : List TypeDef) : Bool := ts.all fun t => t.2.all fun f => decide (f.2.2.1 = tInt) || decide (0 ≤ fnd (ts.map (·.1)) f.2.2.1)
theorem plain_typ : TypOK plainS := by
  have h : typOKb plainS = true := by kernel_rfl
  intro t ht f hf
  have := List.all_eq_true.1 (List.all_eq_true.1 h t ht) f hf
  simpa using this
def txtG (w : Str) : Bool := Nat.ble w.length 1000 && w.all fun c => !Nat.beq c.toNat 46 && !Nat.beq c.toNat 35
theorem txtG_ok {w : Str} (h : txtG w = true) : w.length ≤ 1000 ∧ ∀ c ∈ w, c.toNat ≠ 46 ∧ c.toNat ≠ 35 := by
  simp only [txtG, Bool.and_eq_true] at h
  refine ⟨Nat.le_of_ble_eq_true h.1, fun c hc => ?_⟩
  have := List.all_eq_true.1 h.2 c hc
  simp only [Bool.and_eq_true, Bool.not_eq_true'] at this
  exact ⟨Nat.ne_of_beq_eq_false this.1, Nat.ne_of_beq_eq_false this.2⟩
theorem xpickG {t : Str} {a s : Int} {xs : List (List D)} {Kr Kp : C → List Ob → R} (P : Str → Bool) (hs : okA' 0 a s) (hx : dStr (strsOf xs) = xs) (hl : 0 < (strsOf xs).length ∧ (strsOf xs).length ≤ 1000) (hb : (strsOf xs).all P = true) (h : ∀ w a' s', P w = true → stS 3 a a' s' → Kr (.d (.str w)) [oS t a' s']) : Wp T Tryz.prog tt 70 [.ref 0 0, .d (.list 9 xs)] [oS t a s] Kr Kp := by
  rw [← hx]
  refine w70 ⟨hs.1, (by omega), hs.2.2.1, hs.2.2.2⟩ hl fun w a' s' hw h1 h2 h3 h4 => h w a' s' ?_ ⟨h1, h2, h3, h4⟩
  rw [List.all_eq_true] at hb
  exact hb w hw
theorem xPlain {Kr Kp : C → List Ob → R} (h : Kr (cSch plainS) []) : Wp T Tryz.prog tt 19 [] [] Kr Kp := by
  refine go (k := 19) (own := false) (cap := .deep) Tryz.func19 (by kernel_rfl) ?_
  (conv => whnf); repeat' (first | ((first | refine bdec ?_ ?_ | refine bnot ?_ ?_ | refine bsel_intro ?_ ?_ | skip) <;> intro hc <;> (try simp (disch := omega) only [nm, dQArgs_len, dQDirs_len, dQSels_len, dQDefs_len, dQDefs_0, dQDefs_1, dQDefs_2, dQDefs_3, dBy_len, dBy_0, Nat.reduceAdd, wrapI] at hc) <;> conv => whnf) | (refine .head _ rfl (by kernel_rfl) ?_; conv => whnf) | (refine And.intro ?_ ?_; (focus ((first | omega | decide | (simp (disch := omega) only [nm, dQArgs_len, dQDirs_len, dQSels_len, dQDefs_len, dQDefs_0, dQDefs_1, dQDefs_2, dQDefs_3, dBy_len, dBy_0, Nat.reduceAdd, wrapI] <;> omega) | (simp [strOf, nm, dQArgs_len, dQDirs_len, dQSels_len, dQDefs_len, dQDefs_0, dQDefs_1, dQDefs_2, dQDefs_3, dBy_len, dBy_0, Nat.reduceAdd] <;> omega) | exact Nat.le_of_ble_eq_true rfl | rfl); done)); conv => whnf) | (rw [vv]; conv => whnf) | (refine NilP.mk fun nb hnb => ?_; conv => whnf))
  exact h
theorem w145 {t : Str} {a s : Int} {Kr Kp : C → List Ob → R} (hs : okA' 20100000 a s) (h : ∀ (d : QDoc) a' s', d = [] ∨ docB d = true → stS 50100 a a' s' → Kr (cDoc d) [oS t a' s']) : Wp T Tryz.prog tt 145 [.ref 0 0] [oS t a s] Kr Kp := by
  refine go (k := 145) (own := false) (cap := .deep) Tryz.func145 (by kernel_rfl) ?_
  (conv => whnf); repeat' (first | ((first | refine bdec ?_ ?_ | refine bnot ?_ ?_ | refine bsel_intro ?_ ?_ | skip) <;> intro hc <;> (try simp (disch := omega) only [nm, dQArgs_len, dQDirs_len, dQSels_len, dQDefs_len, dQDefs_0, dQDefs_1, dQDefs_2, dQDefs_3, dBy_len, dBy_0, Nat.reduceAdd, wrapI] at hc) <;> conv => whnf) | (refine .head _ rfl (by kernel_rfl) ?_; conv => whnf) | (refine aheadAtB 145 (by kernel_rfl) (by kernel_rfl) ?_; conv => whnf) | (refine PAnd.mk ?_ ?_ <;> conv => whnf) | exact PTrue.mk | (refine .head _ rfl (by kernel_rfl) ?_; conv => whnf) | (refine w147 (by omega) (fun d a0 s0 hd q0 => ?_) <;> conv => whnf) | (refine xPlain ?_; conv => whnf) | (refine w159 plain_typ hd ?_; conv => whnf) | (refine xpickG txtG (by omega) (by rfl) (by decide) (by kernel_rfl) (fun w a1 s1 hw q1 => ?_) <;> conv => whnf) | (refine w160 (txtG_ok hw).2 (by have := (txtG_ok hw).1; omega) (fun x c hx => ?_) <;> conv => whnf) | (apply pcall; (focus (intro _ _ hk; first | exact w147 (by omega) (fun d a0 s0 hd q0 => ?_) hk | exact xPlain hk | exact w159 plain_typ hd hk | exact xpickG txtG (by omega) (by rfl) (by decide) (by kernel_rfl) (fun w a1 s1 hw q1 => ?_) hk | exact w160 (txtG_ok hw).2 (by have := (txtG_ok hw).1; omega) (fun x c hx => ?_) hk)); conv => whnf) | (refine And.intro ?_ ?_; (focus ((first | omega | decide | (simp (disch := omega) only [nm, dQArgs_len, dQDirs_len, dQSels_len, dQDefs_len, dQDefs_0, dQDefs_1, dQDefs_2, dQDefs_3, dBy_len, dBy_0, Nat.reduceAdd, wrapI] <;> omega) | (simp [strOf, nm, dQArgs_len, dQDirs_len, dQSels_len, dQDefs_len, dQDefs_0, dQDefs_1, dQDefs_2, dQDefs_3, dBy_len, dBy_0, Nat.reduceAdd] <;> omega) | exact Nat.le_of_ble_eq_true rfl | rfl); done)); conv => whnf) | (rw [vv]; conv => whnf) | (refine NilP.mk fun nb hnb => ?_; conv => whnf))
  · exact h x _ _ hx (by omega)
  · exact h d _ _ (.inr hd) (by omega)
end Go.Proofs.SL
set_option linter.unusedVariables false
set_option linter.unusedSimpArgs false
set_option maxRecDepth 100000
set_option maxHeartbeats 8000000
namespace Go.Proofs.SL
open Go Go.Proofs Go.Proofs.EN Go.Proofs.VT
variable {T : Tabs}
def bndP (a : QArg) : Prop := a.1.length ≤ 40 ∧ smV a.2
def vs3 (x y z : Int) : List QArg := [([120], 1, x, []), ([121], 1, y, []), ([98], 2, z, [])]
theorem vs3_ok {x y z : Int} (hx : 0 ≤ x ∧ x ≤ 8) (hy : 0 ≤ y ∧ y ≤ 8) (hz : 0 ≤ z ∧ z ≤ 1) : ∀ a ∈ vs3 x y z, bndP a := by
  intro a ha
  simp only [vs3, List.mem_cons, List.not_mem_nil, or_false] at ha
  rcases ha with rfl | rfl | rfl
  · exact ⟨by simp, smV_int (by omega) _⟩
  · exact ⟨by simp, smV_int (by omega) _⟩
  · exact ⟨by simp, smV_bool hz _⟩
theorem w146 {t : Str} {a s : Int} {Kr Kp : C → List Ob → R} (hs : okA' 100 a s) (h : ∀ (vs : List QArg) a' s', (∀ x ∈ vs, bndP x) → vs.length ≤ 3 → stS 30 a a' s' → ∀ ver, Kr (.row 1) [oS t a' s', .row 179 .deep ver (dQArgs vs)]) : Wp T Tryz.prog tt 146 [.ref 0 0] [oS t a s] Kr Kp := by
  refine go (k := 146) (own := true) (cap := .deep) Tryz.func146 (by kernel_rfl) ?_
  (conv => whnf); repeat' (first | ((first | refine bdec ?_ ?_ | refine bnot ?_ ?_ | refine bsel_intro ?_ ?_ | skip) <;> intro hc <;> (try simp (disch := omega) only [nm, dQArgs_len, dQArgs_0, dBy_len, dBy_0, Nat.reduceAdd, wrapI] at hc) <;> conv => whnf) | (refine .head _ rfl (by kernel_rfl) ?_; conv => whnf) | (refine aheadAtB 146 (by kernel_rfl) (by kernel_rfl) ?_; conv => whnf) | (refine PAnd.mk ?_ ?_ <;> conv => whnf) | exact PTrue.mk | (refine .head _ rfl (by kernel_rfl) ?_; conv => whnf) | (refine xnext (by omega) (by omega) (fun k0 a0 s0 k1 k2 q1 => ?_) <;> conv => whnf) | (apply pcall; (focus (intro _ _ hk; first | exact xnext (by omega) (by omega) (fun k0 a0 s0 k1 k2 q1 => ?_) hk)); conv => whnf) | (refine And.intro ?_ ?_; (focus ((first | omega | decide | (simp (disch := omega) only [nm, dQArgs_len, dQArgs_0, dBy_len, dBy_0, Nat.reduceAdd, wrapI] <;> omega) | (simp [strOf, nm, dQArgs_len, dQArgs_0, dBy_len, dBy_0, Nat.reduceAdd] <;> omega) | exact Nat.le_of_ble_eq_true rfl | rfl); done)); conv => whnf) | (rw [vv]; conv => whnf) | (refine NilP.mk fun nb hnb => ?_; conv => whnf))
  rename_i ka aa sa ka1 ka2 qa kb ab sb kb1 kb2 qb
  exact h (vs3 ka kb k0) _ _ (vs3_ok (by omega) (by omega) (by omega)) (by simp [vs3]) (by omega) 0
theorem w148 {t : Str} {a s : Int} {Kr Kp : C → List Ob → R} (hs : okA' 100 a s) (h : ∀ (vs : List QArg) a' s', (∀ x ∈ vs, bndP x) → vs.length ≤ 3 → stS 60 a a' s' → Kr (.d (.list 179 (dQArgs vs))) [oS t a' s']) : Wp T Tryz.prog tt 148 [.ref 0 0] [oS t a s] Kr Kp := by
  refine go (k := 148) (own := false) (cap := .deep) Tryz.func148 (by kernel_rfl) ?_
  (conv => whnf); repeat' (first | ((first | refine bdec ?_ ?_ | refine bnot ?_ ?_ | refine bsel_intro ?_ ?_ | skip) <;> intro hc <;> (try simp (disch := omega) only [nm, dQArgs_len, dQArgs_0, dBy_len, dBy_0, Nat.reduceAdd, wrapI] at hc) <;> conv => whnf) | (refine .head _ rfl (by kernel_rfl) ?_; conv => whnf) | (refine aheadAtB 148 (by kernel_rfl) (by kernel_rfl) ?_; conv => whnf) | (refine PAnd.mk ?_ ?_ <;> conv => whnf) | exact PTrue.mk | (refine .head _ rfl (by kernel_rfl) ?_; conv => whnf) | (refine xchance (by omega) (by omega) (fun b0 a3 s3 q2 => ?_) <;> conv => whnf) | (refine xnext (by omega) (by omega) (fun k0 a0 s0 k1 k2 q1 => ?_) <;> conv => whnf) | (apply pcall; (focus (intro _ _ hk; first | exact xchance (by omega) (by omega) (fun b0 a3 s3 q2 => ?_) hk | exact xnext (by omega) (by omega) (fun k0 a0 s0 k1 k2 q1 => ?_) hk)); conv => whnf) | (refine And.intro ?_ ?_; (focus ((first | omega | decide | (simp (disch := omega) only [nm, dQArgs_len, dQArgs_0, dBy_len, dBy_0, Nat.reduceAdd, wrapI] <;> omega) | (simp [strOf, nm, dQArgs_len, dQArgs_0, dBy_len, dBy_0, Nat.reduceAdd] <;> omega) | exact Nat.le_of_ble_eq_true rfl | rfl); done)); conv => whnf) | (rw [vv]; conv => whnf) | (refine NilP.mk fun nb hnb => ?_; conv => whnf))
  · rename_i kd ad sd kd1 kd2 qd ka aa sa ka1 ka2 qa kb ab sb kb1 kb2 qb
    have ok := vs3_ok (x := kd) (y := ka) (z := kb) (by omega) (by omega) (by omega)
    obtain rfl | rfl | rfl : k0 = 0 ∨ k0 = 1 ∨ k0 = 2 := by omega
    · exact h ((vs3 kd ka kb).drop 0) _ _ (fun x hx => ok x (List.mem_of_mem_drop hx)) (by simp [vs3]) (by omega)
    · exact h ((vs3 kd ka kb).drop 1) _ _ (fun x hx => ok x (List.mem_of_mem_drop hx)) (by simp [vs3]) (by omega)
    · exact h ((vs3 kd ka kb).drop 2) _ _ (fun x hx => ok x (List.mem_of_mem_drop hx)) (by simp [vs3]) (by omega)
  · rename_i ka aa sa ka1 ka2 qa kb ab sb kb1 kb2 qb
    exact h (vs3 ka kb k0) _ _ (vs3_ok (by omega) (by omega) (by omega)) (by simp [vs3]) (by omega)
end Go.Proofs.SL
set_option linter.unusedVariables false
set_option linter.unusedSimpArgs false
set_option maxRecDepth 100000
set_option maxHeartbeats 8000000
namespace Go.Proofs.SL
open Go Go.Proofs Go.Proofs.EN Go.Proofs.VT
variable {T : Tabs}
abbrev cDD (d : QDoc) : C := .d (.list 192 (dQDefs 222 237 201 d))
abbrev cBB (vs : List QArg) : C := .d (.list 179 (dQArgs vs))
abbrev dcP (d : QDoc) : Prop := d = [] ∨ docB d = true
theorem w128 {t : Str} {a s : Int} {Kr Kp : C → List Ob → R} (hs : okA' 50000000 a s) (h : ∀ (d : QDoc) (vs : List QArg) a' s', dcP d → (∀ x ∈ vs, bndP x) → vs.length ≤ 3 → stS 110000 a a' s' → Kr (.agg [cDD d, cBB vs]) [oS t a' s']) : Wp T Tryz.prog tt 128 [.ref 0 0] [oS t a s] Kr Kp := by
  refine go (k := 128) (own := false) (cap := .deep) Tryz.func128 (by kernel_rfl) ?_
  (conv => whnf); repeat' (first | ((first | refine bdec ?_ ?_ | refine bnot ?_ ?_ | refine bsel_intro ?_ ?_ | skip) <;> intro hc <;> (try simp (disch := omega) only [nm, dQArgs_len, dQDirs_len, dQSels_len, dQDefs_len, dQDefs_0, dQDefs_1, dQDefs_2, dQDefs_3, dBy_len, dBy_0, Nat.reduceAdd, wrapI] at hc) <;> conv => whnf) | (refine .head _ rfl (by kernel_rfl) ?_; conv => whnf) | (refine aheadAtB 128 (by kernel_rfl) (by kernel_rfl) ?_; conv => whnf) | (refine PAnd.mk ?_ ?_ <;> conv => whnf) | exact PTrue.mk | (refine .head _ rfl (by kernel_rfl) ?_; conv => whnf) | (refine w145 (by omega) (fun d a0 s0 hd q0 => ?_) <;> conv => whnf) | (refine w147 (by omega) (fun d a0 s0 hd q0 => ?_) <;> conv => whnf) | (refine w146 (by omega) (fun vs a1 s1 hv hl q1 ver => ?_) <;> conv => whnf) | (refine w148 (by omega) (fun vs a1 s1 hv hl q1 => ?_) <;> conv => whnf) | (refine xchance (by omega) (by omega) (fun b a2 s2 q2 => ?_) <;> conv => whnf) | (apply pcall; (focus (intro _ _ hk; first | exact w145 (by omega) (fun d a0 s0 hd q0 => ?_) hk | exact w147 (by omega) (fun d a0 s0 hd q0 => ?_) hk | exact w146 (by omega) (fun vs a1 s1 hv hl q1 ver => ?_) hk | exact w148 (by omega) (fun vs a1 s1 hv hl q1 => ?_) hk | exact xchance (by omega) (by omega) (fun b a2 s2 q2 => ?_) hk)); conv => whnf) | (refine And.intro ?_ ?_; (focus ((first | omega | decide | (simp (disch := omega) only [nm, dQArgs_len, dQDirs_len, dQSels_len, dQDefs_len, dQDefs_0, dQDefs_1, dQDefs_2, dQDefs_3, dBy_len, dBy_0, Nat.reduceAdd, wrapI] <;> omega) | (simp [strOf, nm, dQArgs_len, dQDirs_len, dQSels_len, dQDefs_len, dQDefs_0, dQDefs_1, dQDefs_2, dQDefs_3, dBy_len, dBy_0, Nat.reduceAdd] <;> omega) | exact Nat.le_of_ble_eq_true rfl | rfl); done)); conv => whnf) | (rw [vv]; conv => whnf) | (refine NilP.mk fun nb hnb => ?_; conv => whnf))
  · exact h d vs _ _ (.inr hd) hv hl (by omega)
  · exact h d vs _ _ hd hv hl (by omega)
theorem reqT_ok {d : QDoc} {vs : List QArg} (hd : dcP d) (hv : ∀ x ∈ vs, bndP x) (hl : vs.length ≤ 3) : d.length ≤ 100 ∧ (∀ x ∈ d, defP x) ∧ (docT d).length ≤ 10000000 ∧ (∀ a ∈ vs, valP a.2) ∧ (vs.map bindT).flatten.length ≤ 1000 ∧ (reqT d vs).length ≤ 11000000 := by
  have h1 : d.length ≤ 100 ∧ (∀ x ∈ d, defP x) ∧ (docT d).length ≤ 10000000 := by
    rcases hd with rfl | hd
    · exact ⟨Nat.zero_le _, fun x hx => absurd hx (List.not_mem_nil), by simp [docT, Lib.join_nil]⟩
    · have := (docB_inv hd).1
      exact ⟨by omega, doc_small hd⟩
  have h2 : (vs.map bindT).flatten.length ≤ 1000 := by
    have := flat_le bindT (B := 90) vs fun a ha => by
      have := hv a ha
      have h3 := this.2.2
      have h4 := this.1
      simp only [bindT, List.length_append, List.length_cons, List.length_nil]
      omega
    omega
  refine ⟨h1.1, h1.2.1, h1.2.2, fun a ha => (hv a ha).2.1, h2, ?_⟩
  have := h1.2.2
  simp only [reqT, List.length_append]
  split <;> simp only [List.length_cons, List.length_nil] <;> omega
theorem w93 {t : Str} {a s : Int} {Kr Kp : C → List Ob → R} (hs : okA' 60000000 a s) (h : ∀ (w : Str) a' s', w.length ≤ 12000000 → stS 120000 a a' s' → Kr (.d (.str w)) [oS t a' s']) : Wp T Tryz.prog tt 93 [.ref 0 0] [oS t a s] Kr Kp := by
  refine go (k := 93) (own := true) (cap := .deep) Tryz.func93 (by kernel_rfl) ?_
  (conv => whnf); repeat' (first | ((first | refine bdec ?_ ?_ | refine bnot ?_ ?_ | refine bsel_intro ?_ ?_ | skip) <;> intro hc <;> (try simp (disch := omega) only [nm, dQArgs_len, dQDirs_len, dQSels_len, dQDefs_len, dQDefs_0, dQDefs_1, dQDefs_2, dQDefs_3, dBy_len, dBy_0, Nat.reduceAdd, wrapI] at hc) <;> conv => whnf) | (refine .head _ rfl (by kernel_rfl) ?_; conv => whnf) | (refine aheadAtB 93 (by kernel_rfl) (by kernel_rfl) ?_; conv => whnf) | (refine PAnd.mk ?_ ?_ <;> conv => whnf) | exact PTrue.mk | (refine .head _ rfl (by kernel_rfl) ?_; conv => whnf) | (refine w128 (by omega) (fun d vs a0 s0 hd hv hl q0 => ?_) <;> conv => whnf) | (refine w127 (reqT_ok hd hv hl).1 (reqT_ok hd hv hl).2.1 (Nat.le_trans (reqT_ok hd hv hl).2.2.1 (by decide)) (reqT_ok hd hv hl).2.2.2.1 (Nat.le_trans (reqT_ok hd hv hl).2.2.2.2.1 (by decide)) ?_; conv => whnf) | (refine xchance (by omega) (by omega) (fun b a2 s2 q2 => ?_) <;> conv => whnf) | (refine xpickG (fun w => Nat.ble w.length 1000) (by omega) (by rfl) (by decide) (by kernel_rfl) (fun w a1 s1 hw q1 => ?_) <;> conv => whnf) | (apply pcall; (focus (intro _ _ hk; first | exact w128 (by omega) (fun d vs a0 s0 hd hv hl q0 => ?_) hk | exact w127 (reqT_ok hd hv hl).1 (reqT_ok hd hv hl).2.1 (Nat.le_trans (reqT_ok hd hv hl).2.2.1 (by decide)) (reqT_ok hd hv hl).2.2.2.1 (Nat.le_trans (reqT_ok hd hv hl).2.2.2.2.1 (by decide)) hk | exact xchance (by omega) (by omega) (fun b a2 s2 q2 => ?_) hk | exact xpickG (fun w => Nat.ble w.length 1000) (by omega) (by rfl) (by decide) (by kernel_rfl) (fun w a1 s1 hw q1 => ?_) hk)); conv => whnf) | (refine And.intro ?_ ?_; (focus ((first | omega | decide | (simp (disch := omega) only [nm, dQArgs_len, dQDirs_len, dQSels_len, dQDefs_len, dQDefs_0, dQDefs_1, dQDefs_2, dQDefs_3, dBy_len, dBy_0, Nat.reduceAdd, wrapI] <;> omega) | (simp [strOf, nm, dQArgs_len, dQDirs_len, dQSels_len, dQDefs_len, dQDefs_0, dQDefs_1, dQDefs_2, dQDefs_3, dBy_len, dBy_0, Nat.reduceAdd] <;> omega) | exact Nat.le_of_ble_eq_true rfl | rfl); done)); conv => whnf) | (rw [vv]; conv => whnf) | (refine NilP.mk fun nb hnb => ?_; conv => whnf))
  · exact h w _ _ (by have := Nat.le_of_ble_eq_true hw; omega) (by omega)
  · exact h _ _ _ (Nat.le_trans (reqT_ok hd hv hl).2.2.2.2.2 (by decide)) (by omega)
theorem xDigits {n : Int} {Kr Kp : C → List Ob → R} (hn : 0 ≤ n ∧ n ≤ 1000) (h : ∀ u : Str, u.length ≤ 21 → Kr (.d (.str u)) []) : Wp T Tryz.prog tt 94 [.d (.int .i64 n)] [] Kr Kp :=
  w94 (by omega) (h _ (itoa_len (by omega)))
theorem w59 {t : Str} {a s : Int} {Kr Kp : C → List Ob → R} (hs : okA' 70000000 a s) (h : ∀ (w : Str) a' s', w.length ≤ 13000000 → stS 130000 a a' s' → Kr (.d (.str w)) [oS t a' s']) : Wp T Tryz.prog tt 59 [.ref 0 0] [oS t a s] Kr Kp := by
  refine go (k := 59) (own := true) (cap := .deep) Tryz.func59 (by kernel_rfl) ?_
  (conv => whnf); repeat' (first | ((first | refine bdec ?_ ?_ | refine bnot ?_ ?_ | refine bsel_intro ?_ ?_ | skip) <;> intro hc <;> (try simp (disch := omega) only [nm, dQArgs_len, dQDirs_len, dQSels_len, dQDefs_len, dQDefs_0, dQDefs_1, dQDefs_2, dQDefs_3, dBy_len, dBy_0, Nat.reduceAdd, wrapI] at hc) <;> conv => whnf) | (refine .head _ rfl (by kernel_rfl) ?_; conv => whnf) | (refine aheadAtB 59 (by kernel_rfl) (by kernel_rfl) ?_; conv => whnf) | (refine PAnd.mk ?_ ?_ <;> conv => whnf) | exact PTrue.mk | (refine .head _ rfl (by kernel_rfl) ?_; conv => whnf) | (refine xnext (by omega) (by omega) (fun k0 a0 s0 k1 k2 q0 => ?_) <;> conv => whnf) | (refine w93 (by omega) (fun w a1 s1 hw q1 => ?_) <;> conv => whnf) | (refine xpickG (fun w => Nat.ble w.length 1000) (by omega) (by rfl) (by decide) (by kernel_rfl) (fun w a1 s1 hw q1 => ?_) <;> conv => whnf) | (refine (fun hq => wpArgs (xs' := [.d (.int .i64 (1 + k0))]) (by rw [wrapI (by omega) (by omega)]) (xDigits (by omega) hq)) (fun u hu => ?_) <;> conv => whnf) | (apply pcall; (focus (intro _ _ hk; first | exact xnext (by omega) (by omega) (fun k0 a0 s0 k1 k2 q0 => ?_) hk | exact w93 (by omega) (fun w a1 s1 hw q1 => ?_) hk | exact xpickG (fun w => Nat.ble w.length 1000) (by omega) (by rfl) (by decide) (by kernel_rfl) (fun w a1 s1 hw q1 => ?_) hk | exact (fun hq => wpArgs (xs' := [.d (.int .i64 (1 + k0))]) (by rw [wrapI (by omega) (by omega)]) (xDigits (by omega) hq)) (fun u hu => ?_) hk)); conv => whnf) | (refine And.intro ?_ ?_; (focus ((first | omega | decide | (simp (disch := omega) only [nm, dQArgs_len, dQDirs_len, dQSels_len, dQDefs_len, dQDefs_0, dQDefs_1, dQDefs_2, dQDefs_3, dBy_len, dBy_0, Nat.reduceAdd, wrapI] <;> omega) | (simp [strOf, nm, dQArgs_len, dQDirs_len, dQSels_len, dQDefs_len, dQDefs_0, dQDefs_1, dQDefs_2, dQDefs_3, dBy_len, dBy_0, Nat.reduceAdd] <;> omega) | exact Nat.le_of_ble_eq_true rfl | rfl); done)); conv => whnf) | (rw [vv]; conv => whnf) | (refine NilP.mk fun nb hnb => ?_; conv => whnf))
  all_goals
    refine h _ _ _ ?_ ?_ <;> first
      | omega
      | (have := Nat.le_of_ble_eq_true hw; omega)
      | (simp only [List.length_append]; show 4 + _ ≤ _; omega)
      | (simp only [List.length_append]; show 5 + _ ≤ _; omega)
end Go.Proofs.SL
set_option linter.unusedVariables false
set_option linter.unusedSimpArgs false
set_option maxRecDepth 100000
set_option maxHeartbeats 8000000
namespace Go.Proofs.SL
open Go Go.Proofs Go.Proofs.EN Go.Proofs.VT
variable {T : Tabs}
/-! ### Stores as data -/
abbrev Ver := Int × Int
def dV (p : Ver) : List D := [.int .i64 p.1, .int .i64 p.2]
def dVs (vs : List Ver) : List (List D) := vs.map dV
def dCh (V : TypeId) (cs : List (List Ver)) : List (List D) := cs.map fun vs => [.list V (dVs vs)]
end Go.Proofs.SL
