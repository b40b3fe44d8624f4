/- Contracts of functions of this program, by the evaluator EN; part KQ. No conditions but those that each theorem states. -/
import Derived.Test.YtekcghhacpllaaaGreatDoorKO
set_option linter.unusedVariables false
set_option linter.unusedSimpArgs false
set_option maxRecDepth 100000
set_option maxHeartbeats 8000000
namespace Go.Proofs.SL
open Go Go.Proofs Go.Proofs.EN Go.Proofs.VT
variable {T : Tabs}
/-! ### A schema's tokens -/
def argTok (a : ArgDef) : List Tok := [tokN a.1, tokP [58], tokN tInt] ++ (if a.2 then [tokP [33]] else [])
def argsTok (xs : List ArgDef) : List Tok := if xs = [] then [] else [tokP [40]] ++ (xs.map argTok).flatten ++ [tokP [41]]
def fldTok (f : FieldDef) : List Tok := [tokN f.1] ++ argsTok f.2.1 ++ [tokP [58]] ++ tyTok f.2.2.1 f.2.2.2.1 f.2.2.2.2
def typTok (t : TypeDef) : List Tok := [tokN [116, 121, 112, 101], tokN t.1, tokP [123]] ++ (t.2.map fldTok).flatten ++ [tokP [125]]
def schTok (ts : List TypeDef) : List Tok := (ts.map typTok).flatten
def schT (ts : List TypeDef) : Str := Lib.join ((schTok ts).map (·.2.2)) [32]
theorem flat_take_le {α : Type} (f : α → List Tok) : ∀ (xs : List α) (i : Nat), ((xs.take i).map f).flatten.length ≤ (xs.map f).flatten.length
  | [], i => by simp
  | x :: xs, 0 => by simp
  | x :: xs, i + 1 => by
    have := flat_take_le f xs i
    simp only [List.take_succ_cons, List.map_cons, List.flatten_cons, List.length_append]
    omega
theorem flat_succ {α : Type} (f : α → List Tok) {xs : List α} {i : Nat} {x : α} (h : xs[i]? = some x) : ((xs.take (i + 1)).map f).flatten = ((xs.take i).map f).flatten ++ f x := by
  rw [List.take_add_one, h]; simp
theorem w41 {a : Str} {xs : List ArgDef} {c : Str} {d e : Bool} {Kr Kp : C → List Ob → R} (hx : xs.length ≤ 4) (h : ∀ ver, Kr (.row 0) [.row 74 .deep ver (dToks (fldTok (a, xs, c, d, e)))]) : Wp T Tryz.prog tt 41 [.agg [.d (.str a), .d (.list 68 (dArgDefs xs)), .d (.str c), .d (.bool d), .d (.bool e)]] [] Kr Kp := by
  refine go (k := 41) (own := true) (cap := .deep) Tryz.func41 (by kernel_rfl) ?_
  have hall : ∀ zs : List ArgDef, ((zs.map argTok).flatten).length ≤ 4 * zs.length := fun zs => by
    induction zs with
    | nil => simp
    | cons z zs ih =>
      have : (argTok z).length ≤ 4 := by unfold argTok; split <;> simp
      simp only [List.map_cons, List.flatten_cons, List.length_append, List.length_cons]; omega
  have hty : (tyTok c d e).length ≤ 4 := by cases d <;> cases e <;> simp [tyTok]
  (conv => whnf); repeat' (first | ((first | refine bdec ?_ ?_ | refine bnot ?_ ?_ | refine bsel_intro ?_ ?_ | skip) <;> intro hc <;> (try simp (disch := omega) only [nm, dArgDefs_len, dFieldDefs_len, dTypeDefs_len, dSchemas_len, dArgDefs_0, dArgDefs_1, dFieldDefs_0, dFieldDefs_1, dFieldDefs_2, dFieldDefs_3, dFieldDefs_4, dTypeDefs_0, dTypeDefs_1, dSchemas_0, dToks_len, dToks_0, dToks_1, dToks_2, Nat.reduceAdd, wrapI] at hc) <;> conv => whnf) | (refine aheadAt 41 (by kernel_rfl) (by kernel_rfl) ?_; conv => whnf) | (refine PAnd.mk ?_ ?_ <;> conv => whnf) | exact PTrue.mk | (refine .head _ rfl (by kernel_rfl) ?_; conv => whnf) | (refine w39 ?_; conv => whnf) | (refine w40 ?_; conv => whnf) | (refine w49 fun ver => ?_ <;> conv => whnf) | (apply pcall; (focus (intro _ _ hk; first | exact w39 hk | exact w40 hk | exact w49 fun ver => ?_ hk)); conv => whnf) | (refine And.intro ?_ ?_; (focus ((first | omega | decide | (simp (disch := omega) only [nm, dArgDefs_len, dFieldDefs_len, dTypeDefs_len, dSchemas_len, dArgDefs_0, dArgDefs_1, dFieldDefs_0, dFieldDefs_1, dFieldDefs_2, dFieldDefs_3, dFieldDefs_4, dTypeDefs_0, dTypeDefs_1, dSchemas_0, dToks_len, dToks_0, dToks_1, dToks_2, Nat.reduceAdd, wrapI] <;> omega) | (simp [strOf, nm, dArgDefs_len, dFieldDefs_len, dTypeDefs_len, dSchemas_len, dArgDefs_0, dArgDefs_1, dFieldDefs_0, dFieldDefs_1, dFieldDefs_2, dFieldDefs_3, dFieldDefs_4, dTypeDefs_0, dTypeDefs_1, dSchemas_0, dToks_len, dToks_0, dToks_1, dToks_2, Nat.reduceAdd] <;> omega) | exact Nat.le_of_ble_eq_true rfl | rfl); done)); conv => whnf) | (rw [vv]; conv => whnf))
  · refine loopOf (fun i : Nat => ⟨[(1, .ref 0 0), (3, .row 1), (19, .d (.list 68 (dArgDefs xs))), (20, .d (.int .i64 ((dArgDefs xs).length : Int))), (21, .d (.int .i64 (i : Int)))], [.box [.d (.str a), .d (.list 68 (dArgDefs xs)), .d (.str c), .d (.bool d), .d (.bool e)], .row 74 .deep 0 (dToks ([tokN a, tokP [40]] ++ ((xs.take i).map argTok).flatten))]⟩) (fun i => i ≤ xs.length) (fun i => xs.length - i) 0 rfl (by omega) ?_
    intro i I hi rec
    obtain ⟨⟨n, nd⟩, hn⟩ : ∃ x, (xs[i]?).getD default = x := ⟨_, rfl⟩
    have hpre : ((xs.take i).map argTok).flatten.length ≤ 16 := by
      have h1 := flat_take_le argTok xs i
      have h2 := hall xs
      omega
    (conv => whnf); repeat' (first | ((first | refine bdec ?_ ?_ | refine bnot ?_ ?_ | refine bsel_intro ?_ ?_ | skip) <;> intro hc <;> (try simp (disch := omega) only [nm, dArgDefs_len, dFieldDefs_len, dTypeDefs_len, dSchemas_len, dArgDefs_0, dArgDefs_1, dFieldDefs_0, dFieldDefs_1, dFieldDefs_2, dFieldDefs_3, dFieldDefs_4, dTypeDefs_0, dTypeDefs_1, dSchemas_0, dToks_len, dToks_0, dToks_1, dToks_2, Nat.reduceAdd, hn, wrapI] at hc) <;> conv => whnf) | (refine aheadAt 41 (by kernel_rfl) (by kernel_rfl) ?_; conv => whnf) | (refine PAnd.mk ?_ ?_ <;> conv => whnf) | exact PTrue.mk | (refine .head _ rfl (by kernel_rfl) ?_; conv => whnf) | (refine w39 ?_; conv => whnf) | (refine w40 ?_; conv => whnf) | (refine w49 fun ver => ?_ <;> conv => whnf) | (apply pcall; (focus (intro _ _ hk; first | exact w39 hk | exact w40 hk | exact w49 fun ver => ?_ hk)); conv => whnf) | (refine And.intro ?_ ?_; (focus ((first | omega | decide | (simp (disch := omega) only [nm, dArgDefs_len, dFieldDefs_len, dTypeDefs_len, dSchemas_len, dArgDefs_0, dArgDefs_1, dFieldDefs_0, dFieldDefs_1, dFieldDefs_2, dFieldDefs_3, dFieldDefs_4, dTypeDefs_0, dTypeDefs_1, dSchemas_0, dToks_len, dToks_0, dToks_1, dToks_2, Nat.reduceAdd, hn, wrapI] <;> omega) | (simp [strOf, nm, dArgDefs_len, dFieldDefs_len, dTypeDefs_len, dSchemas_len, dArgDefs_0, dArgDefs_1, dFieldDefs_0, dFieldDefs_1, dFieldDefs_2, dFieldDefs_3, dFieldDefs_4, dTypeDefs_0, dTypeDefs_1, dSchemas_0, dToks_len, dToks_0, dToks_1, dToks_2, Nat.reduceAdd, hn] <;> omega) | exact Nat.le_of_ble_eq_true rfl | rfl); done)); conv => whnf) | (rw [vv]; conv => whnf))
    · have hc : nd = true := hc
      subst hc
      refine eqI (rec (i + 1) (by omega) (by omega)) ?_
      rw [flat_succ argTok (of_getD hn (by omega)), wrapS (by omega)]
      simp only [nm, dArgDefs_len, dFieldDefs_len, dTypeDefs_len, dSchemas_len, dArgDefs_0, dArgDefs_1, dFieldDefs_0, dFieldDefs_1, dFieldDefs_2, dFieldDefs_3, dFieldDefs_4, dTypeDefs_0, dTypeDefs_1, dSchemas_0, dToks_len, dToks_0, dToks_1, dToks_2, Nat.reduceAdd, hn]
      simp [dToks, dTok, argTok, tokN, tokP]
    · have hc : nd = false := hc
      subst hc
      refine eqI (rec (i + 1) (by omega) (by omega)) ?_
      rw [flat_succ argTok (of_getD hn (by omega)), wrapS (by omega)]
      simp only [nm, dArgDefs_len, dFieldDefs_len, dTypeDefs_len, dSchemas_len, dArgDefs_0, dArgDefs_1, dFieldDefs_0, dFieldDefs_1, dFieldDefs_2, dFieldDefs_3, dFieldDefs_4, dTypeDefs_0, dTypeDefs_1, dSchemas_0, dToks_len, dToks_0, dToks_1, dToks_2, Nat.reduceAdd, hn]
      simp [dToks, dTok, argTok, tokN, tokP]
    all_goals
      have hne : xs ≠ [] := fun e => by subst e; simp at *
      rw [List.take_of_length_le (by omega)]
      refine krO (h 0) ?_
      simp [dToks, dTok, fldTok, argsTok, hne, tokN, tokP]
  all_goals
    have hne : xs = [] := List.eq_nil_of_length_eq_zero (by omega)
    subst hne
    refine krO (h 0) ?_
    simp [dToks, dTok, fldTok, argsTok, tokN, tokP]
theorem w10 {t : Str} {n m : Nat} {tk : List Tok} {sc : List TypeDef} {Kr Kp : C → List Ob → R} (ht : t.length ≤ 65536) (h35 : ∀ c ∈ t, c.toNat ≠ 35) (hx : lexO n t = some tk) (hk : tk.length ≤ 4000) (hs : schO m tk [] = some sc) (hok : schB sc = true) (h : Kr (.tuple [.agg [.d (.list 37 (dTypeDefs 40 68 sc))], .d (.int .i64 0)]) []) : Wp T Tryz.prog tt 10 [.d (.str t)] [] Kr Kp := by
  refine go (k := 10) (own := false) (cap := .deep) Tryz.func10 (by kernel_rfl) ?_
  (conv => whnf); repeat' (first | ((first | refine bdec ?_ ?_ | refine bnot ?_ ?_ | refine bsel_intro ?_ ?_ | skip) <;> intro hc <;> (try simp (disch := omega) only [nm, dArgDefs_len, dFieldDefs_len, dTypeDefs_len, dSchemas_len, dArgDefs_0, dArgDefs_1, dFieldDefs_0, dFieldDefs_1, dFieldDefs_2, dFieldDefs_3, dFieldDefs_4, dTypeDefs_0, dTypeDefs_1, dSchemas_0, dToks_len, dToks_0, dToks_1, dToks_2, Nat.reduceAdd, wrapI] at hc) <;> conv => whnf) | (refine .head _ rfl (by kernel_rfl) ?_; conv => whnf) | (refine w44 ht h35 hx hk ?_; conv => whnf) | (refine w45 hs (by omega) fun ver => ?_ <;> conv => whnf) | (refine w7 ?_; conv => whnf) | (apply pcall; (focus (intro _ _ hk; first | exact w44 ht h35 hx hk hk | exact w45 hs (by omega) fun ver => ?_ hk | exact w7 hk)); conv => whnf) | (refine And.intro ?_ ?_; (focus ((first | omega | decide | (simp (disch := omega) only [nm, dArgDefs_len, dFieldDefs_len, dTypeDefs_len, dSchemas_len, dArgDefs_0, dArgDefs_1, dFieldDefs_0, dFieldDefs_1, dFieldDefs_2, dFieldDefs_3, dFieldDefs_4, dTypeDefs_0, dTypeDefs_1, dSchemas_0, dToks_len, dToks_0, dToks_1, dToks_2, Nat.reduceAdd, wrapI] <;> omega) | (simp [strOf, nm, dArgDefs_len, dFieldDefs_len, dTypeDefs_len, dSchemas_len, dArgDefs_0, dArgDefs_1, dFieldDefs_0, dFieldDefs_1, dFieldDefs_2, dFieldDefs_3, dFieldDefs_4, dTypeDefs_0, dTypeDefs_1, dSchemas_0, dToks_len, dToks_0, dToks_1, dToks_2, Nat.reduceAdd] <;> omega) | exact Nat.le_of_ble_eq_true rfl | rfl); done)); conv => whnf) | (rw [vv]; conv => whnf))
  · have hc : (!schB sc) = true := hc
    rw [hok] at hc; cases hc
  · exact h
theorem argTok_k {a : ArgDef} {p : Tok} (h : p ∈ argTok a) : p.1 ≠ 2 ∧ p.1 ≠ 3 := by
  unfold argTok at h
  rcases List.mem_append.1 h with h | h
  · simp [tokN, tokP] at h
    rcases h with rfl | rfl | rfl <;> exact ⟨by simp, by simp⟩
  · split at h
    · simp [tokP] at h; subst h; exact ⟨by simp, by simp⟩
    · cases h
theorem fldTok_k {f : FieldDef} {p : Tok} (h : p ∈ fldTok f) : p.1 ≠ 2 ∧ p.1 ≠ 3 := by
  unfold fldTok at h
  rcases List.mem_append.1 h with h | h
  · rcases List.mem_append.1 h with h | h
    · rcases List.mem_append.1 h with h | h
      · simp [tokN] at h; subst h; exact ⟨by simp, by simp⟩
      · unfold argsTok at h
        split at h
        · cases h
        · rcases List.mem_append.1 h with h | h
          · rcases List.mem_append.1 h with h | h
            · simp [tokP] at h; subst h; exact ⟨by simp, by simp⟩
            · obtain ⟨l, hl, hp⟩ := List.mem_flatten.1 h
              obtain ⟨a, _, rfl⟩ := List.mem_map.1 hl
              exact argTok_k hp
          · simp [tokP] at h; subst h; exact ⟨by simp, by simp⟩
    · simp [tokP] at h; subst h; exact ⟨by simp, by simp⟩
  · exact tyTok_m _ _ _ _ h
theorem schTok_k {ts : List TypeDef} {p : Tok} (h : p ∈ schTok ts) : p.1 ≠ 2 ∧ p.1 ≠ 3 := by
  unfold schTok at h
  obtain ⟨l, hl, hp⟩ := List.mem_flatten.1 h
  obtain ⟨x, _, rfl⟩ := List.mem_map.1 hl
  unfold typTok at hp
  rcases List.mem_append.1 hp with h | h
  · rcases List.mem_append.1 h with h | h
    · simp [tokN, tokP] at h
      rcases h with rfl | rfl | rfl <;> exact ⟨by simp, by simp⟩
    · obtain ⟨l, hl, hp⟩ := List.mem_flatten.1 h
      obtain ⟨f, _, rfl⟩ := List.mem_map.1 hl
      exact fldTok_k hp
  · simp [tokP] at h; subst h; exact ⟨by simp, by simp⟩
theorem schTok_at (ts : List TypeDef) (i : Nat) : (((schTok ts)[i]?).getD default).1 ≠ 2 ∧ (((schTok ts)[i]?).getD default).1 ≠ 3 := by
  cases h : (schTok ts)[i]? with
  | none => exact ⟨by decide, by decide⟩
  | some p => exact schTok_k (List.mem_of_getElem? h)
theorem w8 {ts : List TypeDef} {Kr Kp : C → List Ob → R} (hok : schB ts = true) (h4 : ∀ x ∈ ts, ∀ f ∈ x.2, f.2.1.length ≤ 4) (hl : (schTok ts).length ≤ 4000) (hb : (schT ts).length ≤ 65536) (h : Kr (.tuple [.d (.str (schT ts)), .d (.int .i64 0)]) []) : Wp T Tryz.prog tt 8 [.agg [.d (.list 37 (dTypeDefs 40 68 ts))]] [] Kr Kp := by
  refine go (k := 8) (own := true) (cap := .deep) Tryz.func8 (by kernel_rfl) ?_
  (conv => whnf); repeat' (first | ((first | refine bdec ?_ ?_ | refine bnot ?_ ?_ | refine bsel_intro ?_ ?_ | skip) <;> intro hc <;> (try simp (disch := omega) only [nm, dArgDefs_len, dFieldDefs_len, dTypeDefs_len, dSchemas_len, dArgDefs_0, dArgDefs_1, dFieldDefs_0, dFieldDefs_1, dFieldDefs_2, dFieldDefs_3, dFieldDefs_4, dTypeDefs_0, dTypeDefs_1, dSchemas_0, dToks_len, dToks_0, dToks_1, dToks_2, Nat.reduceAdd, wrapI] at hc) <;> conv => whnf) | (refine aheadAt 8 (by kernel_rfl) (by kernel_rfl) ?_; conv => whnf) | (refine PAnd.mk ?_ ?_ <;> conv => whnf) | exact PTrue.mk | (refine .head _ rfl (by kernel_rfl) ?_; conv => whnf) | (refine w7 ?_; conv => whnf) | (apply pcall; (focus (intro _ _ hk; first | exact w7 hk)); conv => whnf) | (refine And.intro ?_ ?_; (focus ((first | omega | decide | (simp (disch := omega) only [nm, dArgDefs_len, dFieldDefs_len, dTypeDefs_len, dSchemas_len, dArgDefs_0, dArgDefs_1, dFieldDefs_0, dFieldDefs_1, dFieldDefs_2, dFieldDefs_3, dFieldDefs_4, dTypeDefs_0, dTypeDefs_1, dSchemas_0, dToks_len, dToks_0, dToks_1, dToks_2, Nat.reduceAdd, wrapI] <;> omega) | (simp [strOf, nm, dArgDefs_len, dFieldDefs_len, dTypeDefs_len, dSchemas_len, dArgDefs_0, dArgDefs_1, dFieldDefs_0, dFieldDefs_1, dFieldDefs_2, dFieldDefs_3, dFieldDefs_4, dTypeDefs_0, dTypeDefs_1, dSchemas_0, dToks_len, dToks_0, dToks_1, dToks_2, Nat.reduceAdd] <;> omega) | exact Nat.le_of_ble_eq_true rfl | rfl); done)); conv => whnf) | (rw [vv]; conv => whnf))
  · have hc : (!schB ts) = true := hc
    rw [hok] at hc; cases hc
  refine loopOf (fun i : Nat => ⟨[(4, .row 0), (14, .d (.list 37 (dTypeDefs 40 68 ts))), (15, .d (.int .i64 ((dTypeDefs 40 68 ts).length : Int))), (16, .d (.int .i64 (i : Int)))], [.row 74 .deep 0 (dToks (schTok (ts.take i)))]⟩) (fun i => i ≤ ts.length) (fun i => ts.length - i) 0 rfl (by omega) ?_
  intro i I hi rec
  obtain ⟨x, hx⟩ : ∃ x, (ts[i]?).getD default = x := ⟨_, rfl⟩
  have hpre : i < ts.length → (schTok (ts.take i)).length + (typTok x).length ≤ 4000 := fun hlt => by
    have h1 := flat_take_le typTok ts (i + 1)
    rw [flat_succ typTok (of_getD hx hlt), List.length_append] at h1
    unfold schTok at hl ⊢
    omega
  have htl : (typTok x).length = 4 + ((x.2.map fldTok).flatten).length := by simp [typTok]; omega
  have hp0 : (schTok (ts.take i)).length ≤ 4000 := by
    have h1 := flat_take_le typTok ts i
    unfold schTok at hl ⊢
    omega
  (conv => whnf); repeat' (first | ((first | refine bdec ?_ ?_ | refine bnot ?_ ?_ | refine bsel_intro ?_ ?_ | skip) <;> intro hc <;> (try simp (disch := omega) only [nm, dArgDefs_len, dFieldDefs_len, dTypeDefs_len, dSchemas_len, dArgDefs_0, dArgDefs_1, dFieldDefs_0, dFieldDefs_1, dFieldDefs_2, dFieldDefs_3, dFieldDefs_4, dTypeDefs_0, dTypeDefs_1, dSchemas_0, dToks_len, dToks_0, dToks_1, dToks_2, Nat.reduceAdd, hx, wrapI] at hc) <;> conv => whnf) | (refine aheadAt 8 (by kernel_rfl) (by kernel_rfl) ?_; conv => whnf) | (refine PAnd.mk ?_ ?_ <;> conv => whnf) | exact PTrue.mk | (refine .head _ rfl (by kernel_rfl) ?_; conv => whnf) | (refine w39 ?_; conv => whnf) | (refine w40 ?_; conv => whnf) | (refine wpArgs (xs' := [.d (.list 74 (dToks (schTok ts)))]) (by rw [List.take_of_length_le (by omega)]) (w42 (schTok_at ts) ?_ ?_) <;> conv => whnf) | (apply pcall; (focus (intro _ _ hk; first | exact w39 hk | exact w40 hk | exact wpArgs (xs' := [.d (.list 74 (dToks (schTok ts)))]) (by rw [List.take_of_length_le (by omega)]) (w42 (schTok_at ts) ?_ ?_) hk)); conv => whnf) | (refine And.intro ?_ ?_; (focus ((first | omega | decide | (simp (disch := omega) only [nm, dArgDefs_len, dFieldDefs_len, dTypeDefs_len, dSchemas_len, dArgDefs_0, dArgDefs_1, dFieldDefs_0, dFieldDefs_1, dFieldDefs_2, dFieldDefs_3, dFieldDefs_4, dTypeDefs_0, dTypeDefs_1, dSchemas_0, dToks_len, dToks_0, dToks_1, dToks_2, Nat.reduceAdd, hx, wrapI] <;> omega) | (simp [strOf, nm, dArgDefs_len, dFieldDefs_len, dTypeDefs_len, dSchemas_len, dArgDefs_0, dArgDefs_1, dFieldDefs_0, dFieldDefs_1, dFieldDefs_2, dFieldDefs_3, dFieldDefs_4, dTypeDefs_0, dTypeDefs_1, dSchemas_0, dToks_len, dToks_0, dToks_1, dToks_2, Nat.reduceAdd, hx] <;> omega) | exact Nat.le_of_ble_eq_true rfl | rfl); done)); conv => whnf) | (rw [vv]; conv => whnf))
  · refine loopOf (fun k : Nat => ⟨[(4, .row 0), (14, .d (.list 37 (dTypeDefs 40 68 ts))), (15, .d (.int .i64 ((dTypeDefs 40 68 ts).length : Int))), (16, .d (.int .i64 (i : Int))), (29, .d (.list 40 (dFieldDefs 68 x.2))), (30, .d (.int .i64 ((dFieldDefs 68 x.2).length : Int))), (31, .d (.int .i64 (k : Int)))], [.row 74 .deep 0 (dToks (schTok (ts.take i) ++ [tokN [116, 121, 112, 101], tokN x.1, tokP [123]] ++ ((x.2.take k).map fldTok).flatten))]⟩) (fun k => k ≤ x.2.length) (fun k => x.2.length - k) 0 (by simp only [nm, dArgDefs_len, dFieldDefs_len, dTypeDefs_len, dSchemas_len, dArgDefs_0, dArgDefs_1, dFieldDefs_0, dFieldDefs_1, dFieldDefs_2, dFieldDefs_3, dFieldDefs_4, dTypeDefs_0, dTypeDefs_1, dSchemas_0, dToks_len, dToks_0, dToks_1, dToks_2, Nat.reduceAdd, hx]; simp [dToks, dTok, tokN, tokP]) (by omega) ?_
    intro k J hk rec2
    obtain ⟨⟨f1, f2, f3, f4, f5⟩, hf⟩ : ∃ f, (x.2[k]?).getD default = f := ⟨_, rfl⟩
    have hpr2 : k < x.2.length → ((x.2.take k).map fldTok).flatten.length + (fldTok (f1, f2, f3, f4, f5)).length ≤ ((x.2.map fldTok).flatten).length := fun hlt => by
      have h1 := flat_take_le fldTok x.2 (k + 1)
      rw [flat_succ fldTok (of_getD hf hlt), List.length_append] at h1
      exact h1
    have hp2 := flat_take_le fldTok x.2 k
    have hit : i < ts.length := by omega
    have hpi := hpre hit
    have hf4 : k < x.2.length → f2.length ≤ 4 := fun hlt => h4 x (List.mem_of_getElem? (of_getD hx hit)) (f1, f2, f3, f4, f5) (List.mem_of_getElem? (of_getD hf hlt))
    (conv => whnf); repeat' (first | ((first | refine bdec ?_ ?_ | refine bnot ?_ ?_ | refine bsel_intro ?_ ?_ | skip) <;> intro hc <;> (try simp (disch := omega) only [nm, dArgDefs_len, dFieldDefs_len, dTypeDefs_len, dSchemas_len, dArgDefs_0, dArgDefs_1, dFieldDefs_0, dFieldDefs_1, dFieldDefs_2, dFieldDefs_3, dFieldDefs_4, dTypeDefs_0, dTypeDefs_1, dSchemas_0, dToks_len, dToks_0, dToks_1, dToks_2, Nat.reduceAdd, hf, wrapI] at hc) <;> conv => whnf) | (refine aheadAt 8 (by kernel_rfl) (by kernel_rfl) ?_; conv => whnf) | (refine PAnd.mk ?_ ?_ <;> conv => whnf) | exact PTrue.mk | (refine .head _ rfl (by kernel_rfl) ?_; conv => whnf) | (refine w40 ?_; conv => whnf) | (refine wpArgs (xs' := [.agg [.d (.str f1), .d (.list 68 (dArgDefs f2)), .d (.str f3), .d (.bool f4), .d (.bool f5)]]) (by simp only [nm, dArgDefs_len, dFieldDefs_len, dTypeDefs_len, dSchemas_len, dArgDefs_0, dArgDefs_1, dFieldDefs_0, dFieldDefs_1, dFieldDefs_2, dFieldDefs_3, dFieldDefs_4, dTypeDefs_0, dTypeDefs_1, dSchemas_0, dToks_len, dToks_0, dToks_1, dToks_2, Nat.reduceAdd, hf, Nat.reduceAdd]) (w41 ?_ fun ver => ?_) <;> conv => whnf) | (apply pcall; (focus (intro _ _ hk; first | exact w40 hk | exact wpArgs (xs' := [.agg [.d (.str f1), .d (.list 68 (dArgDefs f2)), .d (.str f3), .d (.bool f4), .d (.bool f5)]]) (by simp only [nm, dArgDefs_len, dFieldDefs_len, dTypeDefs_len, dSchemas_len, dArgDefs_0, dArgDefs_1, dFieldDefs_0, dFieldDefs_1, dFieldDefs_2, dFieldDefs_3, dFieldDefs_4, dTypeDefs_0, dTypeDefs_1, dSchemas_0, dToks_len, dToks_0, dToks_1, dToks_2, Nat.reduceAdd, hf, Nat.reduceAdd]) (w41 ?_ fun ver => ?_) hk)); conv => whnf) | (refine And.intro ?_ ?_; (focus ((first | omega | decide | (simp (disch := omega) only [nm, dArgDefs_len, dFieldDefs_len, dTypeDefs_len, dSchemas_len, dArgDefs_0, dArgDefs_1, dFieldDefs_0, dFieldDefs_1, dFieldDefs_2, dFieldDefs_3, dFieldDefs_4, dTypeDefs_0, dTypeDefs_1, dSchemas_0, dToks_len, dToks_0, dToks_1, dToks_2, Nat.reduceAdd, hf, wrapI] <;> omega) | (simp [strOf, nm, dArgDefs_len, dFieldDefs_len, dTypeDefs_len, dSchemas_len, dArgDefs_0, dArgDefs_1, dFieldDefs_0, dFieldDefs_1, dFieldDefs_2, dFieldDefs_3, dFieldDefs_4, dTypeDefs_0, dTypeDefs_1, dSchemas_0, dToks_len, dToks_0, dToks_1, dToks_2, Nat.reduceAdd, hf] <;> omega) | exact Nat.le_of_ble_eq_true rfl | rfl); done)); conv => whnf) | (rw [vv]; conv => whnf))
    · show f2.length ≤ 4
      exact hf4 (by omega)
    · refine eqI (rec2 (k + 1) (by omega) (by omega)) ?_
      rw [flat_succ fldTok (of_getD hf (by omega)), wrapS (by omega)]
      simp [dToks]
    · refine eqI (rec (i + 1) (by omega) (by omega)) ?_
      rw [wrapS (by omega), List.take_of_length_le (l := x.2) (by omega)]
      unfold schTok
      rw [flat_succ typTok (of_getD hx (by omega))]
      simp [dToks, dTok, typTok, tokN, tokP]
  · show (schT ts).length ≤ 4294967296; omega
  · exact h
end Go.Proofs.SL
