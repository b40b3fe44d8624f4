/- Contracts of functions of this program, by the evaluator EN; part RC. No conditions but those that each theorem states. -/
import Derived.Test.YtekcghhacpllaaaDoorRB
set_option linter.unusedVariables false
set_option linter.unusedSimpArgs false
set_option maxRecDepth 100000
set_option maxHeartbeats 8000000
namespace Go.Proofs.SL
open Go Go.Proofs Go.Proofs.EN Go.Proofs.VT Go.RowKit
variable {T : Tabs}
theorem kept_below {w w' : World} (h : Go.RowKit.Below w.heap.size w w') : Kept (fun _ => False) w w' := ⟨h.os, h.tape, h.output, h.size, fun b hb _ => h.block b hb⟩
theorem rep_list_inv {w : World} {S : Nat → Prop} {v : Value} {e : TypeId} {xs : List (List D)} (h : Rep tt w S v (.list e xs)) :
    (xs = [] ∧ ∃ a cap, v = .slice a 0 cap) ∨ ∃ (ti : TI) (b off cap : Nat) (vs : Nat → Nat → Value), tt e = some ti ∧ v = .slice (some ⟨b, off, none⟩) xs.length cap ∧ xs.length ≤ big ∧ S b ∧ xs.length ≤ cap ∧ 0 < xs.length ∧
      (∀ i j, i < xs.length → j < ti.cells.length → w.cell? ⟨b, off + (i * ti.cells.length + j), none⟩ = some (vs i j)) ∧ (∀ i j, i < xs.length → j < ti.cells.length → Rep tt w S (vs i j) ((xs.getD i []).getD j .z)) := by
  cases h with
  | nil _ a cap => exact .inl ⟨rfl, a, cap, rfl⟩
  | list _ ti _ a cap b off vs ht hd hk hcap hb hfit ha hc hr =>
    rcases Nat.eq_zero_or_pos xs.length with h0 | h0
    · obtain rfl := List.length_eq_zero_iff.1 h0
      exact .inl ⟨rfl, a, cap, rfl⟩
    · obtain ⟨rfl, hS⟩ := ha h0
      exact .inr ⟨ti, b, off, cap, vs, ht, rfl, hb, hS, hcap, h0, hc, hr⟩
theorem vers_of {w : World} {S : Nat → Prop} (hS : ∀ b, S b → b < w.heap.size) {v : Value} {q : List Ver} (h : Rep tt w S v (.list 93 (dVs q))) : Vers w.heap.size w v q := by
  rcases rep_list_inv h with ⟨h0, a, cap, rfl⟩ | ⟨ti, b, off, cap, vs, ht, rfl, hb, hSb, hcp, h0, hc, hr⟩
  · exact .inl ⟨by simpa [dVs] using h0, a, cap, rfl⟩
  · obtain rfl : (⟨.struct [(0, 3), (1, 3)], [.int .i64, .int .i64], 16⟩ : TI) = ti := Option.some.inj ((show tt 93 = some _ by rfl).symm.trans ht)
    refine .inr ⟨b, off, cap, by simp, hS b hSb, fun j hj => ?_⟩
    have hj' : j < (dVs q).length := by simpa using hj
    have e0 := hc j 0 hj' (by simp)
    have e1 := hc j 1 hj' (by simp)
    have r0 := hr j 0 hj' (by simp)
    have r1 := hr j 1 hj' (by simp)
    have g0 : ((dVs q).getD j []).getD 0 .z = .int .i64 ((q[j]?).getD default).1 := by simp [dVs, dV, hj]
    have g1 : ((dVs q).getD j []).getD 1 .z = .int .i64 ((q[j]?).getD default).2 := by simp [dVs, dV, hj]
    rw [g0] at r0
    rw [g1] at r1
    have v0 : vs j 0 = .int .i64 ((q[j]?).getD default).1 := by generalize vs j 0 = v at r0; cases r0; rfl
    have v1 : vs j 1 = .int .i64 ((q[j]?).getD default).2 := by generalize vs j 1 = v at r1; cases r1; rfl
    rw [v0] at e0
    rw [v1] at e1
    simp only [List.length_cons, List.length_nil, Nat.zero_add, Nat.reduceAdd, Nat.add_zero] at e0 e1
    exact ⟨e0, by rw [Nat.add_assoc]; exact e1⟩
theorem w56 {cs : List (List Ver)} {now ts : Int} {key : Nat} {Kr Kp : C → List Ob → R} (hk : key < cs.length) (h : Kr (.d (.int .i64 (rdAt ((cs[key]?).getD []) ts))) []) : Wp T Tryd.prog tt 56 [.agg [.d (.list 91 (dCh 93 cs)), .d (.int .i64 now)], .d (.int .i64 (key : Int)), .d (.int .i64 ts)] [] Kr Kp := by
  refine Wp.ofPure (enters_of Tryd.func56 (by kernel_rfl) rfl) (fun i hi => ?_) rfl (fun w S vs hS hT hl hv => ?_) h
  · match i, hi with
    | 0, _ => rfl
    | 1, _ => rfl
    | 2, _ => rfl
  · match vs, hl with
    | [v0, v1, v2], _ =>
      have h0 := hv 0 (by simp)
      have h1 : v1 = .int .i64 (key : Int) := by have := hv 1 (by simp); cases this with | d _ _ h => cases h; rfl
      have h2 : v2 = .int .i64 ts := by have := hv 2 (by simp); cases this with | d _ _ h => cases h; rfl
      subst h1
      subst h2
      cases h0 with
      | agg _ us hul hr =>
        have hul : us.size = 2 := hul
        match us, hul with
        | ⟨[u0, u1]⟩, _ =>
          have k0 : Rep tt w S u0 (.list 91 (dCh 93 cs)) := by have := hr 0 (by simp); cases this with | d _ _ h => exact h
          have k1 : u1 = .int .i64 now := by have := hr 1 (by simp); cases this with | d _ _ h => cases h; rfl
          subst k1
          rcases rep_list_inv k0 with ⟨h0, _⟩ | ⟨ti, b, off, cap, us, ht, rfl, hb, hSb, hcp, h0, hc, hrr⟩
          · simp [dCh] at h0; subst h0; simp at hk
          · obtain rfl : (⟨.slice 93, [.list 93], 24⟩ : TI) = ti := Option.some.inj ((show tt 91 = some _ by rfl).symm.trans ht)
            have hk' : key < (dCh 93 cs).length := by simpa using hk
            have e0 := hc key 0 hk' (by simp)
            have r0 := hrr key 0 hk' (by simp)
            have g0 : ((dCh 93 cs).getD key []).getD 0 .z = .list 93 (dVs ((cs[key]?).getD [])) := by simp [dCh, hk]
            rw [g0] at r0
            have hV := vers_of hS r0
            have hq : ((cs[key]?).getD []).length ≤ 4294967296 := by
              rcases rep_list_inv r0 with ⟨h0, _⟩ | ⟨_, _, _, _, _, _, _, hb, _⟩
              · have : ((cs[key]?).getD []) = [] := by simpa [dVs] using h0
                simp [this]
              · simpa [big] using hb
            obtain ⟨a, cap2, ev⟩ : ∃ a cap2, us key 0 = .slice a ((cs[key]?).getD []).length cap2 := by
              rcases hV with ⟨h0, a, cap, e⟩ | ⟨b, off, cap, e, _⟩
              · exact ⟨a, cap, by rw [e, h0]; rfl⟩
              · exact ⟨_, cap, e⟩
            rw [ev] at e0 hV
            have hm : (dCh 93 cs).length ≤ 4294967296 := by simpa [big] using hb
            have := callsIn_wide.1 (readAt_in Fence.wide 3 trivial trivial trivial rfl (by omega) b off (dCh 93 cs).length cap key a cap2 now ts _ hq w (by simpa using hk) hm (hS b hSb) (by simpa using e0) hV)
            refine this.mono fun e w' ⟨he, hB⟩ => ⟨_, he, kept_below hB, .d _ _ (.int _ _)⟩
end Go.Proofs.SL
