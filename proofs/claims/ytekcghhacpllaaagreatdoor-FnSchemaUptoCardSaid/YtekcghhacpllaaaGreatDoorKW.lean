/- Contracts of functions of this program, by the evaluator EN; part KW. No conditions but those that each theorem states. -/
import Derived.Test.YtekcghhacpllaaaGreatDoorKU
import Derived.Test.YtekcghhacpllaaaGreatDoorKV
set_option linter.unusedVariables false
set_option linter.unusedSimpArgs false
set_option maxRecDepth 100000
set_option maxHeartbeats 8000000
namespace Go.Proofs.SL
open Go Go.Proofs Go.Proofs.EN Go.Proofs.VT
variable {T : Tabs}
/-- What a drawn schema is like. -/
structure Good (ts : List TypeDef) : Prop where
  ok : schB ts = true
  tk : (schTok ts).length ≤ 4000
  tx : (schT ts).length ≤ 65536
  n35 : ∀ c ∈ schT ts, c.toNat ≠ 35
  lx : lexO 3000 (schT ts) = some (schTok ts)
  sc : schO 100 (schTok ts) [] = some ts
  pr : prT ts = schT ts
  len : 0 < ts.length ∧ ts.length ≤ 8
  x : ∀ x ∈ ts, x.1.length ≤ 1000 ∧ (typP x).length ≤ 65536 ∧ x.2.length ≤ 100 ∧ (∀ f ∈ x.2, f.2.1.length ≤ 4 ∧ (fldP f).length ≤ 65536 ∧ f.2.2.1.length ≤ 65536) ∧ (∀ f ∈ x.2, f.1.length ≤ 65536) ∧ 0 < x.2.length ∧ fnd (x.2.map (·.1)) tNot < 0
  z : zTypeDefs ts ≤ 1048576
theorem good_of {ts : List TypeDef} (h : ts ∈ allS) : Good ts := by
  have h1 := List.all_eq_true.1 all_good ts h
  simp only [goodS, okX, okF, Bool.and_eq_true, List.all_eq_true, decide_eq_true_eq, Bool.not_eq_true', decide_eq_false_iff_not] at h1
  obtain ⟨a1, a2, a3, a4, a5, a6, a7, a8, a9, a10⟩ := h1
  refine ⟨a1, a2, a3, a4, a5, a6, a7, a8, fun x hx => ?_, a10⟩
  obtain ⟨b1, b2, b3, b4, b5, b6⟩ := a9 x hx
  exact ⟨b1, b2, b3, fun f hf => ⟨(b4 f hf).1, (b4 f hf).2.1, (b4 f hf).2.2.1⟩, fun f hf => (b4 f hf).2.2.2, b5, b6⟩
theorem sch_ty {ts : List TypeDef} (h : schB ts = true) {i : Nat} (hi : i < ts.length) : typB ts i = true := by
  simp only [schB, Bool.and_eq_true] at h
  have := h.2
  rw [allN, List.all_eq_true] at this
  exact this i (by simpa using hi)
theorem sch_name {ts : List TypeDef} (h : schB ts = true) {i : Nat} {x : TypeDef} (hi : i < ts.length) (hx : (ts[i]?).getD default = x) : fnd (ts.map (·.1)) x.1 = (i : Int) := by
  have := sch_ty h hi
  simp only [typB, hx, Bool.and_eq_true, decide_eq_true_eq] at this
  exact this.1.1.2
theorem sch_field {ts : List TypeDef} (h : schB ts = true) {i k : Nat} {x : TypeDef} {f : FieldDef} (hi : i < ts.length) (hx : (ts[i]?).getD default = x) (hk : k < x.2.length) (hf : (x.2[k]?).getD default = f) : fnd (x.2.map (·.1)) f.1 = (k : Int) := by
  have := sch_ty h hi
  simp only [typB, hx, Bool.and_eq_true, decide_eq_true_eq] at this
  have h2 := this.2
  rw [allN, List.all_eq_true] at h2
  have h3 := h2 k (by simpa using hk)
  simp only [fkB, hf, Bool.and_eq_true, decide_eq_true_eq] at h3
  exact h3.2
theorem w9 {ts : List TypeDef} {Kr Kp : C → List Ob → R} (g : Good ts) (h : Kr (.tuple [.d (.str (schT ts)), .d (.int .i64 0)]) []) : Wp T Tryz.prog tt 9 [.agg [.d (.list 37 (dTypeDefs 40 68 ts))]] [] Kr Kp := by
  refine go (k := 9) (own := true) (cap := .deep) Tryz.func9 (by kernel_rfl) ?_
  (conv => whnf); repeat' (first | ((first | refine bdec ?_ ?_ | refine bnot ?_ ?_ | refine bsel_intro ?_ ?_ | skip) <;> intro hc <;> (try simp (disch := omega) only [nm, dBy_len, dBy_0, dArgDefs_len, dFieldDefs_len, dTypeDefs_len, dSchemas_len, dArgDefs_0, dArgDefs_1, dFieldDefs_0, dFieldDefs_1, dFieldDefs_2, dFieldDefs_3, dFieldDefs_4, dTypeDefs_0, dTypeDefs_1, dSchemas_0, dToks_len, dToks_0, dToks_1, dToks_2, Nat.reduceAdd, wrapI] at hc) <;> conv => whnf) | (refine .head _ rfl (by kernel_rfl) ?_; conv => whnf) | (refine w6 ?_; conv => whnf) | (refine w43 g.len.2 (fun x hx => ⟨(g.x x hx).1, (g.x x hx).2.1, (g.x x hx).2.2.1, (g.x x hx).2.2.2.1⟩) ?_ ?_ <;> conv => whnf) | (apply pcall; (focus (intro _ _ hk; first | exact w6 hk | exact w43 g.len.2 (fun x hx => ⟨(g.x x hx).1, (g.x x hx).2.1, (g.x x hx).2.2.1, (g.x x hx).2.2.2.1⟩) ?_ ?_ hk)); conv => whnf) | (refine And.intro ?_ ?_; (focus ((first | omega | decide | (simp (disch := omega) only [nm, dBy_len, dBy_0, dArgDefs_len, dFieldDefs_len, dTypeDefs_len, dSchemas_len, dArgDefs_0, dArgDefs_1, dFieldDefs_0, dFieldDefs_1, dFieldDefs_2, dFieldDefs_3, dFieldDefs_4, dTypeDefs_0, dTypeDefs_1, dSchemas_0, dToks_len, dToks_0, dToks_1, dToks_2, Nat.reduceAdd, wrapI] <;> omega) | (simp [strOf, nm, dBy_len, dBy_0, dArgDefs_len, dFieldDefs_len, dTypeDefs_len, dSchemas_len, dArgDefs_0, dArgDefs_1, dFieldDefs_0, dFieldDefs_1, dFieldDefs_2, dFieldDefs_3, dFieldDefs_4, dTypeDefs_0, dTypeDefs_1, dSchemas_0, dToks_len, dToks_0, dToks_1, dToks_2, Nat.reduceAdd] <;> omega) | exact Nat.le_of_ble_eq_true rfl | rfl); done)); conv => whnf) | (rw [vv]; conv => whnf) | (refine NilP.mk fun nb hnb => ?_; conv => whnf))
  · have hc : (!schB ts) = true := hc
    rw [g.ok] at hc; cases hc
  · show (prT ts).length ≤ 65536
    rw [g.pr]; exact g.tx
  · rw [g.pr]; exact h
attribute [local irreducible] allS
theorem plain_ok : schB plainS = true := by kernel_rfl
theorem xTypeAt {ts : List TypeDef} {n : Str} {k : Int} {Kr Kp : C → List Ob → R} (hn : n.length ≤ 65536) (hok : schB ts = true) (e : fnd (ts.map (·.1)) n = k) (hk : 0 ≤ k) (h : Kr (.tuple [.d (.int .i64 k), .d (.int .i64 0)]) []) : Wp T Tryz.prog tt 12 [.agg [.d (.list 37 (dTypeDefs 40 68 ts))], .d (.str n)] [] Kr Kp :=
  w12 hn hok (by rw [e]; exact hk) (by rw [e]; exact h)
theorem xFieldAt {ts : List TypeDef} {x : TypeDef} {f : FieldDef} {i k : Nat} {Kr Kp : C → List Ob → R} (g : Good ts) (hi : i < ts.length) (hx : (ts[i]?).getD default = x) (hk : k < x.2.length) (hf : (x.2[k]?).getD default = f)
    (h : Kr (.tuple [.agg [.d (.str f.1), .d (.list 68 (dArgDefs f.2.1)), .d (.str f.2.2.1), .d (.bool f.2.2.2.1), .d (.bool f.2.2.2.2)], .d (.int .i64 0)]) []) : Wp T Tryz.prog tt 13 [.agg [.d (.list 37 (dTypeDefs 40 68 ts))], .d (.str x.1), .d (.str f.1)] [] Kr Kp := by
  have e1 := sch_name g.ok hi hx
  have e2 := sch_field g.ok hi hx hk hf
  have hxm := List.mem_of_getElem? (of_getD hx hi)
  have hfm := List.mem_of_getElem? (of_getD hf hk)
  have gx := g.x x hxm
  refine w13 (x := x) (by have := gx.1; omega) (gx.2.2.2.2.1 f hfm) g.ok (by rw [e1]; omega) (by rw [e1]; exact hx) (fun f hf => (gx.2.2.2.1 f hf).1) (fun f' _ hf' => ?_) (fun hn => ?_)
  · rw [e2, Int.toNat_natCast, hf] at hf'
    rw [← hf']
    exact h
  · rw [e2] at hn; omega
theorem xFieldNo {ts : List TypeDef} {x : TypeDef} {i : Nat} {Kr Kp : C → List Ob → R} (g : Good ts) (hi : i < ts.length) (hx : (ts[i]?).getD default = x)
    (h : Kr (.tuple [.agg [.d (.str []), .d (.list 68 []), .d (.str []), .d (.bool false), .d (.bool false)], .d (.int .i64 9)]) []) : Wp T Tryz.prog tt 13 [.agg [.d (.list 37 (dTypeDefs 40 68 ts))], .d (.str x.1), .d (.str tNot)] [] Kr Kp := by
  have e1 := sch_name g.ok hi hx
  have hxm := List.mem_of_getElem? (of_getD hx hi)
  have gx := g.x x hxm
  refine w13 (x := x) (by have := gx.1; omega) (by decide) g.ok (by rw [e1]; omega) (by rw [e1]; exact hx) (fun f hf => (gx.2.2.2.1 f hf).1) (fun f' h0 _ => ?_) (fun hn => h)
  have := gx.2.2.2.2.2.2
  omega
theorem w3 {code more : Str} {Kr Kp : C → List Ob → R} (h : Kr (.d (.bool true)) []) : Wp T Tryz.prog tt 3 [.d (.list 5 (dBy code)), .d (.list 5 (dBy more))] [] Kr Kp := by
  refine go (k := 3) (own := true) (cap := .deep) Tryz.func3 (by kernel_rfl) ?_
  (conv => whnf); repeat' (first | ((first | refine bdec ?_ ?_ | refine bnot ?_ ?_ | refine bsel_intro ?_ ?_ | skip) <;> intro hc <;> (try simp (disch := omega) only [nm, dBy_len, dBy_0, dArgDefs_len, dFieldDefs_len, dTypeDefs_len, dSchemas_len, dArgDefs_0, dArgDefs_1, dFieldDefs_0, dFieldDefs_1, dFieldDefs_2, dFieldDefs_3, dFieldDefs_4, dTypeDefs_0, dTypeDefs_1, dSchemas_0, dToks_len, dToks_0, dToks_1, dToks_2, Nat.reduceAdd, wrapI] at hc) <;> conv => whnf) | (refine .head _ rfl (by kernel_rfl) ?_; conv => whnf) | (refine w5 fun ts hts => ?_ <;> conv => whnf) | (apply pcall; (focus (intro _ _ hk; first | exact w5 fun ts hts => ?_ hk)); conv => whnf) | (refine And.intro ?_ ?_; (focus ((first | omega | decide | (simp (disch := omega) only [nm, dBy_len, dBy_0, dArgDefs_len, dFieldDefs_len, dTypeDefs_len, dSchemas_len, dArgDefs_0, dArgDefs_1, dFieldDefs_0, dFieldDefs_1, dFieldDefs_2, dFieldDefs_3, dFieldDefs_4, dTypeDefs_0, dTypeDefs_1, dSchemas_0, dToks_len, dToks_0, dToks_1, dToks_2, Nat.reduceAdd, wrapI] <;> omega) | (simp [strOf, nm, dBy_len, dBy_0, dArgDefs_len, dFieldDefs_len, dTypeDefs_len, dSchemas_len, dArgDefs_0, dArgDefs_1, dFieldDefs_0, dFieldDefs_1, dFieldDefs_2, dFieldDefs_3, dFieldDefs_4, dTypeDefs_0, dTypeDefs_1, dSchemas_0, dToks_len, dToks_0, dToks_1, dToks_2, Nat.reduceAdd] <;> omega) | exact Nat.le_of_ble_eq_true rfl | rfl); done)); conv => whnf) | (rw [vv]; conv => whnf) | (refine NilP.mk fun nb hnb => ?_; conv => whnf))
  · exact h
  · exact h
  have hcm2 : more.length ≤ 1048576 := by omega
  have g := good_of hts
  have hl1 := dTypeDefs_len 40 68 ts
  have hln := g.len
  obtain ⟨k, hk⟩ : ∃ k, atV more 0 (ts.length : Int) = k := ⟨_, rfl⟩
  have hkb := atV_in (more := more) (i := 0) (n := (ts.length : Int)) (by omega) (by omega)
  rw [hk] at hkb
  obtain ⟨i, rfl⟩ : ∃ i : Nat, k = (i : Int) := ⟨k.toNat, by omega⟩
  have hi : i < ts.length := by omega
  obtain ⟨x, hx⟩ : ∃ x, (ts[i]?).getD default = x := ⟨_, rfl⟩
  have hxm := List.mem_of_getElem? (of_getD hx hi)
  have gx := g.x x hxm
  have gx1 := gx.1
  have gx3 := gx.2.2.1
  have gx6 := gx.2.2.2.2.2.1
  have hl2 := dFieldDefs_len 68 x.2
  have e1 := sch_name g.ok hi hx
  obtain ⟨k2, hk2⟩ : ∃ k, atV more 1 (x.2.length : Int) = k := ⟨_, rfl⟩
  have hkb2 := atV_in (more := more) (i := 1) (n := (x.2.length : Int)) (by omega) (by omega)
  rw [hk2] at hkb2
  obtain ⟨j, rfl⟩ : ∃ j : Nat, k2 = (j : Int) := ⟨k2.toNat, by omega⟩
  have hj : j < x.2.length := by omega
  obtain ⟨f, hf⟩ : ∃ f, (x.2[j]?).getD default = f := ⟨_, rfl⟩
  have hfl : flR ts = (sLines ts, 0) := by simp [flR, g.ok]
  have w1 : ∀ {Kr Kp : C → List Ob → R}, Kr (.d (.int .i64 (i : Int))) [] → Wp T Tryz.prog tt 11 [.d (.list 5 (dBy more)), .d (.int .i64 0), .d (.int .i64 ((dTypeDefs 40 68 ts).length : Int))] [] Kr Kp := fun hq => by
    rw [hl1]; exact w11 (by omega) (by omega) hcm2 (by rw [hk]; exact hq)
  have w2 : ∀ {Kr Kp : C → List Ob → R} {n : Nat}, n = x.2.length → Kr (.d (.int .i64 (j : Int))) [] → Wp T Tryz.prog tt 11 [.d (.list 5 (dBy more)), .d (.int .i64 1), .d (.int .i64 (n : Int))] [] Kr Kp := fun e hq => by
    subst e; exact w11 (by omega) (by omega) hcm2 (by rw [hk2]; exact hq)
  (conv => whnf); repeat' (first | ((first | refine bdec ?_ ?_ | refine bnot ?_ ?_ | refine bsel_intro ?_ ?_ | skip) <;> intro hc <;> (try simp (disch := omega) only [nm, dBy_len, dBy_0, dArgDefs_len, dFieldDefs_len, dTypeDefs_len, dSchemas_len, dArgDefs_0, dArgDefs_1, dFieldDefs_0, dFieldDefs_1, dFieldDefs_2, dFieldDefs_3, dFieldDefs_4, dTypeDefs_0, dTypeDefs_1, dSchemas_0, dToks_len, dToks_0, dToks_1, dToks_2, Nat.reduceAdd, hx, hf, wrapI] at hc) <;> conv => whnf) | (refine aheadAt 3 (by kernel_rfl) (by kernel_rfl) ?_; conv => whnf) | (refine PAnd.mk ?_ ?_ <;> conv => whnf) | exact PTrue.mk | (refine .head _ rfl (by kernel_rfl) ?_; conv => whnf) | (apply pcall; (focus (intro _ _ hk; refine wpArgs (xs' := [.agg [.d (.list 37 (dTypeDefs 40 68 ts))], .d (.str x.1), .d (.str f.1)]) ?_ (xFieldAt g hi hx hj hf hk); simp only [nm, dBy_len, dBy_0, dArgDefs_len, dFieldDefs_len, dTypeDefs_len, dSchemas_len, dArgDefs_0, dArgDefs_1, dFieldDefs_0, dFieldDefs_1, dFieldDefs_2, dFieldDefs_3, dFieldDefs_4, dTypeDefs_0, dTypeDefs_1, dSchemas_0, dToks_len, dToks_0, dToks_1, dToks_2, Nat.reduceAdd, hx, hf]; done)); conv => whnf) | (apply pcall; (focus (intro _ _ hk; refine wpArgs (xs' := [.agg [.d (.list 37 (dTypeDefs 40 68 ts))], .d (.str x.1), .d (.str tNot)]) ?_ (xFieldNo g hi hx hk); simp only [nm, dBy_len, dBy_0, dArgDefs_len, dFieldDefs_len, dTypeDefs_len, dSchemas_len, dArgDefs_0, dArgDefs_1, dFieldDefs_0, dFieldDefs_1, dFieldDefs_2, dFieldDefs_3, dFieldDefs_4, dTypeDefs_0, dTypeDefs_1, dSchemas_0, dToks_len, dToks_0, dToks_1, dToks_2, Nat.reduceAdd, hx]; done)); conv => whnf) | (refine w6 ?_; conv => whnf) | (refine w7 ?_; conv => whnf) | (refine w8 g.ok (fun x hx f hf => ((g.x x hx).2.2.2.1 f hf).1) g.tk g.tx ?_; conv => whnf) | (refine w9 g ?_; conv => whnf) | (refine w10 g.tx g.n35 g.lx g.tk g.sc g.ok ?_; conv => whnf) | (refine w1 ?_; conv => whnf) | (refine (fun hq => w2 (by simp only [nm, dBy_len, dBy_0, dArgDefs_len, dFieldDefs_len, dTypeDefs_len, dSchemas_len, dArgDefs_0, dArgDefs_1, dFieldDefs_0, dFieldDefs_1, dFieldDefs_2, dFieldDefs_3, dFieldDefs_4, dTypeDefs_0, dTypeDefs_1, dSchemas_0, dToks_len, dToks_0, dToks_1, dToks_2, Nat.reduceAdd, dFieldDefs_len, dTypeDefs_1, hx]) hq) ?_; conv => whnf) | (refine (fun hq => wpArgs (xs' := [.agg [.d (.list 37 (dTypeDefs 40 68 ts))], .d (.str x.1)]) (by simp only [nm, dBy_len, dBy_0, dArgDefs_len, dFieldDefs_len, dTypeDefs_len, dSchemas_len, dArgDefs_0, dArgDefs_1, dFieldDefs_0, dFieldDefs_1, dFieldDefs_2, dFieldDefs_3, dFieldDefs_4, dTypeDefs_0, dTypeDefs_1, dSchemas_0, dToks_len, dToks_0, dToks_1, dToks_2, Nat.reduceAdd, dTypeDefs_0, hx]) (xTypeAt (by omega) g.ok e1 (by omega) hq)) ?_; conv => whnf) | (refine w14 g.z fun ver => ?_ <;> conv => whnf) | (refine w15 g.z fun ver => ?_ <;> conv => whnf) | (refine w16 g.ok ?_; conv => whnf) | (refine w16 plain_ok ?_; conv => whnf) | (refine w18 ?_; conv => whnf) | (refine w19 ?_; conv => whnf) | (refine w17 ?_; conv => whnf) | (apply pcall; (focus (intro _ _ hk; first | exact w6 hk | exact w7 hk | exact w8 g.ok (fun x hx f hf => ((g.x x hx).2.2.2.1 f hf).1) g.tk g.tx hk | exact w9 g hk | exact w10 g.tx g.n35 g.lx g.tk g.sc g.ok hk | exact w1 hk | exact (fun hq => w2 (by simp only [nm, dBy_len, dBy_0, dArgDefs_len, dFieldDefs_len, dTypeDefs_len, dSchemas_len, dArgDefs_0, dArgDefs_1, dFieldDefs_0, dFieldDefs_1, dFieldDefs_2, dFieldDefs_3, dFieldDefs_4, dTypeDefs_0, dTypeDefs_1, dSchemas_0, dToks_len, dToks_0, dToks_1, dToks_2, Nat.reduceAdd, dFieldDefs_len, dTypeDefs_1, hx]) hq) hk | exact (fun hq => wpArgs (xs' := [.agg [.d (.list 37 (dTypeDefs 40 68 ts))], .d (.str x.1)]) (by simp only [nm, dBy_len, dBy_0, dArgDefs_len, dFieldDefs_len, dTypeDefs_len, dSchemas_len, dArgDefs_0, dArgDefs_1, dFieldDefs_0, dFieldDefs_1, dFieldDefs_2, dFieldDefs_3, dFieldDefs_4, dTypeDefs_0, dTypeDefs_1, dSchemas_0, dToks_len, dToks_0, dToks_1, dToks_2, Nat.reduceAdd, dTypeDefs_0, hx]) (xTypeAt (by omega) g.ok e1 (by omega) hq)) hk | exact w14 g.z fun ver => ?_ hk | exact w15 g.z fun ver => ?_ hk | exact w16 g.ok hk | exact w16 plain_ok hk | exact w18 hk | exact w19 hk | exact w17 hk)); conv => whnf) | (refine And.intro ?_ ?_; (focus ((first | omega | decide | (simp (disch := omega) only [nm, dBy_len, dBy_0, dArgDefs_len, dFieldDefs_len, dTypeDefs_len, dSchemas_len, dArgDefs_0, dArgDefs_1, dFieldDefs_0, dFieldDefs_1, dFieldDefs_2, dFieldDefs_3, dFieldDefs_4, dTypeDefs_0, dTypeDefs_1, dSchemas_0, dToks_len, dToks_0, dToks_1, dToks_2, Nat.reduceAdd, hx, hf, wrapI] <;> omega) | (simp [strOf, nm, dBy_len, dBy_0, dArgDefs_len, dFieldDefs_len, dTypeDefs_len, dSchemas_len, dArgDefs_0, dArgDefs_1, dFieldDefs_0, dFieldDefs_1, dFieldDefs_2, dFieldDefs_3, dFieldDefs_4, dTypeDefs_0, dTypeDefs_1, dSchemas_0, dToks_len, dToks_0, dToks_1, dToks_2, Nat.reduceAdd, hx, hf] <;> omega) | exact Nat.le_of_ble_eq_true rfl | rfl); done)); conv => whnf) | (rw [vv]; conv => whnf) | (refine NilP.mk fun nb hnb => ?_; conv => whnf))
  · have hc : (!schB ts) = true := hc
    rw [g.ok] at hc; cases hc
  · exact h
  · rw [hfl] at hc
    exact absurd rfl hc
end Go.Proofs.SL
