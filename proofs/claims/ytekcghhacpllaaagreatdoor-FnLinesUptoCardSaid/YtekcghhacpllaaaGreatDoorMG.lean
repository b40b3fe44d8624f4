/- Contracts of functions of this program, by the evaluator EN. No conditions but those that each theorem states. -/
import Derived.Test.YtekcghhacpllaaaGreatDoorEHg
set_option linter.unusedVariables false
set_option linter.unusedSimpArgs false
set_option maxRecDepth 100000
set_option maxHeartbeats 8000000
namespace Go.Proofs.SL
open Go Go.Proofs Go.Proofs.EN Go.Proofs.VT
variable {T : Tabs}
theorem nstF_dCh (V : TypeId) (cs : List (List Ver)) (i : Nat) : nstF (dCh V cs) i 0 = dVs ((cs[i]?).getD []) := by
  simp only [nstF, dCh, List.getD_eq_getElem?_getD, List.getElem?_map]; cases cs[i]? <;> rfl
theorem setRun_dCh (V : TypeId) (cs : List (List Ver)) (i : Nat) (x : D) (hi : i < cs.length) : setRun ((dCh V cs).getD i []) 0 [x] = [x] := by
  rw [dCh, List.getD_eq_getElem?_getD, List.getElem?_map, List.getElem?_eq_getElem hi]; rfl
theorem dCh_set (V : TypeId) (cs : List (List Ver)) (i : Nat) (c : List Ver) : (dCh V cs).set i [.list V (dVs c)] = dCh V (cs.set i c) := by
  rw [dCh, dCh, List.map_set]
/-- A version more on a chain: of one hour the last one counts. -/
def putC (n : Int) (c : List Ver) (v : Int) : List Ver := (if c ≠ [] ∧ ((c[c.length - 1]?).getD default).1 = n then c.take (c.length - 1) else c) ++ [(n, v)]
def wrS (n : Int) (cs : List (List Ver)) (p : Ver) : List (List Ver) := cs.set p.1.toNat (putC n ((cs[p.1.toNat]?).getD []) p.2)
def wrA (n : Int) (cs : List (List Ver)) (ps : List Ver) : List (List Ver) := ps.foldl (wrS n) cs
theorem wrA_succ {n : Int} {cs : List (List Ver)} {ps : List Ver} {i : Nat} {p : Ver} (h : ps[i]? = some p) : wrA n cs (ps.take (i + 1)) = wrS n (wrA n cs (ps.take i)) p := by
  rw [wrA, List.take_add_one, h, List.foldl_append]; rfl
theorem wrA_len {n : Int} : ∀ {ps : List Ver} {cs : List (List Ver)}, (wrA n cs ps).length = cs.length
  | [], cs => rfl
  | p :: ps, cs => by
    have := wrA_len (n := n) (ps := ps) (cs := wrS n cs p)
    rw [wrA, List.foldl_cons, ← wrA, this, wrS, List.length_set]
theorem putC_len (n : Int) (c : List Ver) (v : Int) : (putC n c v).length ≤ c.length + 1 := by
  unfold putC; split <;> simp <;> omega
theorem wrA_lens {n : Int} {B : Nat} : ∀ {ps : List Ver} {cs : List (List Ver)}, (∀ c ∈ cs, c.length ≤ B) → ∀ c ∈ wrA n cs ps, c.length ≤ B + ps.length
  | [], cs, h, c, hc => by have := h c hc; simpa using this
  | p :: ps, cs, h, c, hc => by
    have := wrA_lens (n := n) (B := B + 1) (ps := ps) (cs := wrS n cs p) (fun c hc => by
      rcases List.mem_or_eq_of_mem_set hc with hc | rfl
      · have := h c hc; omega
      · have h1 := putC_len n ((cs[p.1.toNat]?).getD []) p.2
        rcases Nat.lt_or_ge p.1.toNat cs.length with e | e
        · have := h _ (List.getElem_mem e)
          rw [List.getElem?_eq_getElem e] at h1 ⊢
          simp only [Option.getD_some] at h1 ⊢; omega
        · rw [List.getElem?_eq_none e] at h1 ⊢
          simp only [Option.getD_none, List.length_nil] at h1 ⊢; omega) c hc
    simp only [List.length_cons]; omega
theorem w104 {cs : List (List Ver)} {now : Int} {ps : List Ver} {Kr Kp : C → List Ob → R} (hl : cs.length = 16) (hcl : ∀ c ∈ cs, c.length ≤ 1000000) (hn : 0 ≤ now ∧ now ≤ 1000) (hp : ps.length ≤ 4 ∧ ∀ p ∈ ps, putP p) (h : Kr (cSto (wrA (now + 1) cs ps) (if ps = [] then now else now + 1)) []) : Wp T Tryz.prog tt 104 [cSto cs now, .d (.list 165 (dVs ps))] [] Kr Kp := by
  refine go (k := 104) (own := false) (cap := .deep) Tryz.func104 (by kernel_rfl) ?_
  (conv => whnf); repeat' (first | ((first | refine bdec ?_ ?_ | refine bnot ?_ ?_ | refine bsel_intro ?_ ?_ | skip) <;> intro hc <;> (try simp (disch := omega) only [nm, nstL, nstF_dCh, List.length_drop, Int.reduceToNat, dVs_len, dCh_len, dVs_0, dVs_1, dCh_0, dBy_len, dBy_0, Nat.reduceAdd, wrapI] at hc) <;> conv => whnf) | (refine .head _ rfl (by kernel_rfl) ?_; conv => whnf) | (refine w107 (by omega) hcl ?_; conv => whnf) | (apply pcall; (focus (intro _ _ hk; first | exact w107 (by omega) hcl hk)); conv => whnf) | (refine And.intro ?_ ?_; (focus ((first | omega | decide | (simp (disch := omega) only [nm, nstL, nstF_dCh, List.length_drop, Int.reduceToNat, dVs_len, dCh_len, dVs_0, dVs_1, dCh_0, dBy_len, dBy_0, Nat.reduceAdd, wrapI] <;> omega) | (simp [strOf, nm, nstL, nstF_dCh, List.length_drop, Int.reduceToNat, dVs_len, dCh_len, dVs_0, dVs_1, dCh_0, dBy_len, dBy_0, Nat.reduceAdd] <;> omega) | exact Nat.le_of_ble_eq_true rfl | rfl); done)); conv => whnf) | (rw [vv]; conv => whnf) | (refine NilP.mk fun nb hnb => ?_; conv => whnf))
  · obtain rfl : ps = [] := List.eq_nil_of_length_eq_zero (by omega)
    exact h
  have hw : IntKind.i64.wrap (now + 1) = now + 1 := wrapI (by omega) (by omega)
  rw [hw]
  refine loopOf2 (fun (i : Nat) (ver : Nat) => ⟨[(1, .d (.list 165 (dVs ps))), (2, .ref 0 0), (4, .ref 1 0), (5, .d (.int .i64 (i : Int)))], [.box [.row 2, .d (.int .i64 (now + 1))], .box [.row 3, .d (.int .i64 0)], .row 141 .deep ver (dCh 143 (wrA (now + 1) cs (ps.take i))), .row 141 .deep 0 []]⟩) (fun i v => i ≤ ps.length ∧ v ≤ i) (fun i _ => ps.length - i) 0 0 rfl ⟨by omega, by omega⟩ ?_
  intro i vr I ⟨hi, hv⟩ rec
  obtain ⟨⟨pk, pv⟩, hx⟩ : ∃ p, (ps[i]?).getD default = p := ⟨_, rfl⟩
  obtain ⟨cc, hcc⟩ : ∃ cc, wrA (now + 1) cs (ps.take i) = cc := ⟨_, rfl⟩
  obtain ⟨c, hc0⟩ : ∃ c, (cc[pk.toNat]?).getD [] = c := ⟨_, rfl⟩
  have hccl : cc.length = 16 := by rw [← hcc, wrA_len, hl]
  have hpp : i < ps.length → 0 ≤ pk ∧ pk < 16 := fun h => by have := hp.2 _ (List.mem_of_getElem? (of_getD hx h)); exact ⟨this.1, this.2.1⟩
  have hcle : i < ps.length → c.length ≤ 1000004 := fun h => by
    have h1 := hpp h
    have h2 := wrA_lens (n := now + 1) (ps := ps.take i) hcl c (by rw [hcc, ← hc0, List.getElem?_eq_getElem (by omega)]; exact List.getElem_mem _)
    have : (ps.take i).length ≤ 4 := by simp; omega
    omega
  rw [hcc]
  by_cases hlt : i < ps.length
  · have hpp := hpp hlt
    have hcle := hcle hlt
    have k1 : 0 < c.length → ((c[c.length - 1]?).getD default).1 = now + 1 → dVs (putC (now + 1) c pv) = (dVs c).take (c.length - 1) ++ [[.int .i64 (now + 1), .int .i64 pv]] := fun h1 h2 => by
      rw [putC, if_pos ⟨List.length_pos_iff.1 h1, h2⟩]; simp [dVs, dV, List.map_take]
    have k2 : (0 < c.length → ¬ ((c[c.length - 1]?).getD default).1 = now + 1) → dVs (putC (now + 1) c pv) = dVs c ++ [[.int .i64 (now + 1), .int .i64 pv]] := fun h1 => by
      rw [putC, if_neg (fun e => h1 (List.length_pos_iff.2 e.1) e.2)]; simp [dVs, dV]
    have w1 : (IntKind.i64.wrap ((c.length : Int) - 1)).toNat = c.length - 1 := by
      rcases Nat.eq_zero_or_pos c.length with e | e
      · rw [e]; decide
      · rw [wrapI (by omega) (by omega)]; omega
    have hc0' : (dCh 143 cc).getD pk.toNat [] = [.list 143 (dVs c)] := by
      rw [dCh, List.getD_eq_getElem?_getD, List.getElem?_map, List.getElem?_eq_getElem (by omega)]
      rw [List.getElem?_eq_getElem (by omega)] at hc0
      rw [← hc0]; rfl
    have hkn : pk.toNat < cc.length := by omega
    have key : ∀ ys : List Ver, putC (now + 1) c pv = ys → I ⟨[(1, .d (.list 165 (dVs ps))), (2, .ref 0 0), (4, .ref 1 0), (5, .d (.int .i64 (IntKind.i64.wrap (i + 1))))], [.box [.row 2, .d (.int .i64 (now + 1))], .box [.row 3, .d (.int .i64 0)], .row 141 .deep (vr + 1) ((dCh 143 cc).set pk.toNat (setRun ((dCh 143 cc).getD pk.toNat []) 0 [.list 143 (dVs ys)])), .row 141 .deep 0 []]⟩ := fun ys hy => by
      refine eqI (rec (i + 1) (vr + 1) ⟨by omega, by omega⟩ (by omega)) ?_
      rw [wrA_succ (of_getD hx hlt), hcc, wrS, hc0, hy, setRun_dCh _ _ _ _ hkn, dCh_set, wrapS (by omega)]
    obtain rfl | rfl | rfl | rfl : vr = 0 ∨ vr = 1 ∨ vr = 2 ∨ vr = 3 := by omega
    all_goals
      (conv => whnf); repeat' (first | ((first | refine bdec ?_ ?_ | refine bnot ?_ ?_ | refine bsel_intro ?_ ?_ | skip) <;> intro hc <;> (try simp (disch := omega) only [nm, nstL, nstF_dCh, List.length_drop, Int.reduceToNat, dVs_len, dCh_len, dVs_0, dVs_1, dCh_0, dBy_len, dBy_0, Nat.reduceAdd, hx, hc0, wrapI] at hc) <;> conv => whnf) | (refine .head _ rfl (by kernel_rfl) ?_; conv => whnf) | (refine aheadAtG 104 (by kernel_rfl) (by kernel_rfl) ?_; conv => whnf) | (refine PAnd.mk ?_ ?_ <;> conv => whnf) | exact PTrue.mk | (refine .head _ rfl (by kernel_rfl) ?_; conv => whnf) | (refine And.intro ?_ ?_; (focus ((first | omega | decide | (simp (disch := omega) only [nm, nstL, nstF_dCh, List.length_drop, Int.reduceToNat, dVs_len, dCh_len, dVs_0, dVs_1, dCh_0, dBy_len, dBy_0, Nat.reduceAdd, hx, hc0, wrapI] <;> omega) | (simp [strOf, nm, nstL, nstF_dCh, List.length_drop, Int.reduceToNat, dVs_len, dCh_len, dVs_0, dVs_1, dCh_0, dBy_len, dBy_0, Nat.reduceAdd, hx, hc0] <;> omega) | exact Nat.le_of_ble_eq_true rfl | rfl); done)); conv => whnf) | (rw [vv]; conv => whnf) | (refine NilP.mk fun nb hnb => ?_; conv => whnf))
      all_goals first
        | (exfalso; omega)
        | (refine eqI (key _ rfl) ?_
           first
             | rw [k1 (by omega) (by assumption)]
             | rw [k2 (fun _ => by assumption)]
             | rw [k2 (fun h => absurd h (by omega))]
           simp only [nm, nstL, nstF_dCh, List.length_drop, Int.reduceToNat, dVs_len, dCh_len, dVs_0, dVs_1, dCh_0, dBy_len, dBy_0, Nat.reduceAdd, hx, hc0, w1, List.drop_zero, Nat.sub_zero, Nat.zero_add, List.nil_append]; done)
  · have e1 : ps.take i = ps := List.take_of_length_le (by omega)
    rw [e1] at hcc
    rw [if_neg (fun e => by rw [e] at hlt hi; simp_all)] at h
    (conv => whnf); repeat' (first | ((first | refine bdec ?_ ?_ | refine bnot ?_ ?_ | refine bsel_intro ?_ ?_ | skip) <;> intro hc <;> (try simp (disch := omega) only [nm, nstL, nstF_dCh, List.length_drop, Int.reduceToNat, dVs_len, dCh_len, dVs_0, dVs_1, dCh_0, dBy_len, dBy_0, Nat.reduceAdd, wrapI] at hc) <;> conv => whnf) | (refine .head _ rfl (by kernel_rfl) ?_; conv => whnf) | (refine And.intro ?_ ?_; (focus ((first | omega | decide | (simp (disch := omega) only [nm, nstL, nstF_dCh, List.length_drop, Int.reduceToNat, dVs_len, dCh_len, dVs_0, dVs_1, dCh_0, dBy_len, dBy_0, Nat.reduceAdd, wrapI] <;> omega) | (simp [strOf, nm, nstL, nstF_dCh, List.length_drop, Int.reduceToNat, dVs_len, dCh_len, dVs_0, dVs_1, dCh_0, dBy_len, dBy_0, Nat.reduceAdd] <;> omega) | exact Nat.le_of_ble_eq_true rfl | rfl); done)); conv => whnf) | (rw [vv]; conv => whnf) | (refine NilP.mk fun nb hnb => ?_; conv => whnf))
    all_goals first
      | (exfalso; omega)
      | (rw [hcc] at h; exact h)
end Go.Proofs.SL
