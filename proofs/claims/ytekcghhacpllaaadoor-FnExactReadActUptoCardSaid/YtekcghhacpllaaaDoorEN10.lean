/- Contracts of functions of this program, by the evaluator EN; part EN10. No conditions but those that each theorem states. -/
import Derived.Test.YtekcghhacpllaaaDoorEN9
/- Rows owned less deep; stores. -/
namespace Go.Proofs.EN
open Go
set_option linter.unusedVariables false
set_option linter.unusedSimpArgs false
variable {tt : TypeId → Option TI} {P : Program} {c : Ctx} {w : World} {g : Gh} {os : List Ob} {S : Nat → Prop}

theorem le_up {m' m : Md} (h : Md.le m' m.up = true) : m' = .lv 0 ∨ ∃ m1, m' = m1.up ∧ Md.le m1 m = true := by
  cases m' with
  | lv n =>
    cases n with
    | zero => exact .inl rfl
    | succ n =>
      right
      refine ⟨.lv n, rfl, ?_⟩
      cases m with
      | lv k =>
        have h : Nat.ble (n + 1) (k + 1) = true := h
        have := Nat.le_of_ble_eq_true h
        exact Nat.ble_eq_true_of_le (by omega)
      | deep => rfl
  | deep =>
    right
    cases m with
    | lv k => cases h
    | deep => exact ⟨.deep, rfl, rfl⟩
theorem min_le (a b : Md) : Md.le (Md.min a b) a = true ∧ Md.le (Md.min a b) b = true := by
  cases a with
  | deep =>
    cases b with
    | deep => exact ⟨rfl, rfl⟩
    | lv n => exact ⟨rfl, Nat.ble_eq_true_of_le (Nat.le_refl n)⟩
  | lv m =>
    cases b with
    | deep => exact ⟨Nat.ble_eq_true_of_le (Nat.le_refl m), rfl⟩
    | lv n =>
      simp only [Md.min]
      cases h : Nat.ble m n with
      | true => exact ⟨Nat.ble_eq_true_of_le (Nat.le_refl m), h⟩
      | false =>
        have : ¬ m ≤ n := fun h' => by rw [Nat.ble_eq_true_of_le h'] at h; cases h
        exact ⟨Nat.ble_eq_true_of_le (by omega), Nat.ble_eq_true_of_le (Nat.le_refl n)⟩
theorem zero_le (m : Md) : Md.le (.lv 0) m = true := by cases m <;> rfl

theorem RepW.weak {md : Md} {v : Value} {d : D} {φ : Nat → Prop} (h : RepW tt w S md v d φ) : ∀ md', Md.le md' md = true →
    ∃ φ' : Nat → Prop, (∀ b, φ' b → φ b) ∧ ∀ S' : Nat → Prop, (∀ b, S b → S' b) → (∀ b, φ b → ¬ φ' b → S' b) → RepW tt w S' md' v d φ' := by
  induction h with
  | froz v d φ h =>
    intro md' hle
    have : md' = .lv 0 := by
      cases md' with
      | lv n =>
        have hle : Nat.ble n 0 = true := hle
        have := Nat.le_of_ble_eq_true hle
        have : n = 0 := by omega
        rw [this]
      | deep => cases hle
    subst this
    exact ⟨fun _ => False, fun b hb => hb.elim, fun S' hS _ => .froz _ _ _ (h.mono fun b hb => ⟨hS b hb, rfl⟩)⟩
  | sc md v d φ h hs => exact fun md' _ => ⟨fun _ => False, fun b hb => hb.elim, fun S' hS _ => .sc _ _ _ _ (h.mono fun b hb => ⟨hS b hb, rfl⟩) hs⟩
  | zero md T a φ => exact fun md' _ => ⟨fun _ => False, fun b hb => hb.elim, fun S' hS _ => .zero _ _ _ _⟩
  | list md T ti xs cap b φ vs φs ht hd hk hcap hc0 hb hfit hh hsz hφb hφs hdj hr ih =>
    intro md' hle
    rcases le_up hle with rfl | ⟨m1, rfl, hle1⟩
    · refine ⟨fun _ => False, fun b hb => hb.elim, fun S' hS hF => .froz _ _ _ ?_⟩
      exact (RepW.list md T ti xs cap b φ vs φs ht hd hk hcap hc0 hb hfit hh hsz hφb hφs hdj hr).frz hS fun x hx => hF x hx (fun h => h)
    · have ex : ∀ i j, ∃ φ' : Nat → Prop, i < xs.length → j < ti.cells.length → (∀ b, φ' b → φs i j b) ∧ ∀ S' : Nat → Prop, (∀ b, S b → S' b) → (∀ b, φs i j b → ¬ φ' b → S' b) → RepW tt w S' m1 (vs.getD (i * ti.cells.length + j) Go.undef) ((xs.getD i []).getD j .z) φ' := by
        intro i j
        by_cases hi : i < xs.length
        · by_cases hj : j < ti.cells.length
          · obtain ⟨φ', h1, h2⟩ := ih i j hi hj m1 hle1
            exact ⟨φ', fun _ _ => ⟨h1, h2⟩⟩
          · exact ⟨fun _ => False, fun _ h => absurd h hj⟩
        · exact ⟨fun _ => False, fun h => absurd h hi⟩
      let φ' : Nat → Nat → Nat → Prop := fun i j => (ex i j).choose
      have hφ' : ∀ i j, i < xs.length → j < ti.cells.length → (∀ b, φ' i j b → φs i j b) ∧ ∀ S' : Nat → Prop, (∀ b, S b → S' b) → (∀ b, φs i j b → ¬ φ' i j b → S' b) → RepW tt w S' m1 (vs.getD (i * ti.cells.length + j) Go.undef) ((xs.getD i []).getD j .z) (φ' i j) := fun i j => (ex i j).choose_spec
      refine ⟨fun x => x = b ∨ ∃ i j, i < xs.length ∧ j < ti.cells.length ∧ φ' i j x, ?_, fun S' hS hF => ?_⟩
      · rintro x (rfl | ⟨i, j, hi, hj, hx⟩)
        · exact hφb
        · exact (hφs i j x hi hj ((hφ' i j hi hj).1 x hx)).1
      · refine .list m1 T ti xs cap b _ vs φ' ht hd hk hcap hc0 hb hfit hh hsz (.inl rfl) (fun i j x hi hj hx => ⟨.inr ⟨i, j, hi, hj, hx⟩, (hφs i j x hi hj ((hφ' i j hi hj).1 x hx)).2⟩)
          (fun i j i' j' x hi hj hi' hj' hx hx' => hdj i j i' j' x hi hj hi' hj' ((hφ' i j hi hj).1 x hx) ((hφ' i' j' hi' hj').1 x hx')) (fun i j hi hj => ?_)
        refine (hφ' i j hi hj).2 S' hS fun x hx hn => ?_
        have hx1 := hφs i j x hi hj hx
        refine hF x hx1.1 ?_
        rintro (rfl | ⟨i', j', hi', hj', hx'⟩)
        · exact hx1.2 rfl
        · obtain ⟨rfl, rfl⟩ := hdj i j i' j' x hi hj hi' hj' hx ((hφ' i' j' hi' hj').1 x hx')
          exact hn hx'

/-- A row is owned less deep from now on. -/
theorem weak_step {nt : Nat} {a : Act} {s : St} (hs : RepSt tt c w g nt a s) {o : Nat} {T : TypeId} {md md' : Md} {ver : Nat} {xs : List (List D)} (ho : s.objs[o]? = some (.row T md ver xs)) (hle : Md.le md' md = true) :
    ∃ g', RepSt tt c w g' nt a ⟨s.tmps, s.objs.set o (.row T md' ver xs)⟩ ∧ Stp c w g s.objs w g' (s.objs.set o (.row T md' ver xs)) ∧ g'.η = g.η ∧ g'.ν = g.ν ∧ (∀ k b, k ≠ o → (g'.φ k b ↔ g.φ k b)) ∧ ∀ b, g'.φ o b → g.φ o b := by
  have hol := ob_lt ho
  obtain ⟨v, hv⟩ := hs.inv.eta ho
  obtain ⟨a0, cap, ti, rfl, ht, hd, hk, hfit, hlc, hbg, hc⟩ := hs.inv.ob o _ v ho hv
  have self : (s.objs.set o (.row T md' ver xs))[o]? = some (.row T md' ver xs) := List.getElem?_set_self hol
  -- the blocks that stay
  have ex : ∃ φ' : Nat → Prop, (∀ b, φ' b → g.φ o b) ∧ ∀ S' : Nat → Prop, (∀ b, Now c w g s.objs.length b → S' b) → (∀ b, g.φ o b → ¬ φ' b → S' b) → RowX tt w S' (fun _ _ => False) md' (.slice a0 xs.length cap) T xs φ' (g.ν o) := by
    rcases Nat.eq_zero_or_pos cap with h0 | h0
    · exact ⟨fun _ => False, fun b hb => hb.elim, fun S' _ _ => ⟨a0, cap, ti, rfl, ht, hd, hk, hfit, hlc, hbg, fun h => by omega⟩⟩
    · obtain ⟨b, vs, φs, rfl, hh, hsz, hφb, hφs, hdj, hr, hν⟩ := hc h0
      have ex : ∀ i j, ∃ φ' : Nat → Prop, i < xs.length → j < ti.cells.length → (∀ b, φ' b → φs i j b) ∧ ∀ S' : Nat → Prop, (∀ b, Now c w g s.objs.length b → S' b) → (∀ b, φs i j b → ¬ φ' b → S' b) → RepW tt w S' md' (vs.getD (i * ti.cells.length + j) Go.undef) ((xs.getD i []).getD j .z) φ' := by
        intro i j
        by_cases hi : i < xs.length
        · by_cases hj : j < ti.cells.length
          · obtain ⟨φ', h1, h2⟩ := (hr i j hi hj (fun h => h)).weak md' hle
            exact ⟨φ', fun _ _ => ⟨h1, h2⟩⟩
          · exact ⟨fun _ => False, fun _ h => absurd h hj⟩
        · exact ⟨fun _ => False, fun h => absurd h hi⟩
      let φ' : Nat → Nat → Nat → Prop := fun i j => (ex i j).choose
      have hφ' : ∀ i j, i < xs.length → j < ti.cells.length → (∀ b, φ' i j b → φs i j b) ∧ ∀ S' : Nat → Prop, (∀ b, Now c w g s.objs.length b → S' b) → (∀ b, φs i j b → ¬ φ' i j b → S' b) → RepW tt w S' md' (vs.getD (i * ti.cells.length + j) Go.undef) ((xs.getD i []).getD j .z) (φ' i j) := fun i j => (ex i j).choose_spec
      refine ⟨fun x => x = b ∨ ∃ i j, i < xs.length ∧ j < ti.cells.length ∧ φ' i j x, ?_, fun S' hS hF => ⟨_, cap, ti, rfl, ht, hd, hk, hfit, hlc, hbg, fun _ => ⟨b, vs, φ', rfl, hh, hsz, .inl rfl, fun i j x hi hj _ hx => ⟨.inr ⟨i, j, hi, hj, hx⟩, (hφs i j x hi hj (fun h => h) ((hφ' i j hi hj).1 x hx)).2⟩,
          fun i j i' j' x hi hj hi' hj' _ _ hx hx' => hdj i j i' j' x hi hj hi' hj' (fun h => h) (fun h => h) ((hφ' i j hi hj).1 x hx) ((hφ' i' j' hi' hj').1 x hx'), fun i j hi hj _ => ?_, hν⟩⟩⟩
      · rintro x (rfl | ⟨i, j, hi, hj, hx⟩)
        · exact hφb
        · exact (hφs i j x hi hj (fun h => h) ((hφ' i j hi hj).1 x hx)).1
      · refine (hφ' i j hi hj).2 S' hS fun x hx hn => ?_
        have hx1 := hφs i j x hi hj (fun h => h) hx
        refine hF x hx1.1 ?_
        rintro (rfl | ⟨i', j', hi', hj', hx'⟩)
        · exact hx1.2 rfl
        · obtain ⟨rfl, rfl⟩ := hdj i j i' j' x hi hj hi' hj' (fun h => h) (fun h => h) hx ((hφ' i' j' hi' hj').1 x hx')
          exact hn hx'
  obtain ⟨φ', hsub, hX⟩ := ex
  have h3 : ∀ T2 n, isR3 (s.objs.set o (.row T md' ver xs)) o T2 n → isR3 s.objs o T2 n := fun T2 n hx => by
    obtain ⟨rfl, rfl⟩ := isR3_row self hx
    exact .inl ⟨md, ver, xs, ho, rfl⟩
  have hrh : ∀ T2 ver2 n, isRH (s.objs.set o (.row T md' ver xs)) o T2 ver2 n → ∃ ver, ver ≤ ver2 ∧ isRH s.objs o T2 ver n ∧ (ver2 = ver → g.ν o = g.ν o) := fun T2 ver2 n hx => by
    obtain ⟨rfl, rfl, rfl⟩ := isRH_row self hx
    exact ⟨_, Nat.le_refl _, .inl ⟨md, xs, ho, rfl⟩, fun _ => rfl⟩
  have hcg : Chg c w g s.objs w (g.upd o (g.ν o) φ' (fun _ => False)) (s.objs.set o (.row T md' ver xs)) := .upd hs.inv ho (by simp) (Nat.le_refl _) (fun _ _ _ _ => rfl) rfl rfl rfl (fun b hb => hb.elim) (fun b hb => .inl (hsub b hb)) h3 hrh
  refine ⟨_, hs.upd ho (by simp) (Nat.le_refl _) (fun _ _ _ _ => rfl) rfl rfl rfl (fun b hb => hb.elim) (fun b hb => .inl (hsub b hb)) h3 hrh fun v' hv' => ?_, hcg.stp hs.inv, rfl, ?_, fun k b hk => by simp [Gh.upd, hk], fun b hb => hsub b (by simpa [Gh.upd] using hb)⟩
  · rw [hv] at hv'
    cases hv'
    have e1 : (g.upd o (g.ν o) φ' (fun _ => False)).φ o = φ' := by funext x; simp [Gh.upd]
    have e2 : (g.upd o (g.ν o) φ' (fun _ => False)).ν o = g.ν o := by simp [Gh.upd]
    show RowX _ _ _ _ _ _ _ _ _ _
    rw [e1, e2]
    refine hX _ (fun b hb => (hcg.now hs.inv b hb).1) fun b hb hn => .inr ?_
    have hown := hs.inv.own o b hol hb
    refine ⟨hown.1, hown.2, ?_⟩
    rintro ⟨k, hkl, hkb⟩
    rw [List.length_set] at hkl
    by_cases hko : k = o
    · subst hko
      rw [e1] at hkb
      exact hn hkb
    · have : g.φ k b := by simpa [Gh.upd, hko] using hkb
      exact hko (hs.inv.dj k o b hkl hol this hb)
  · funext k
    by_cases hk : k = o
    · subst hk; simp [Gh.upd]
    · simp [Gh.upd, hk]

end Go.Proofs.EN
