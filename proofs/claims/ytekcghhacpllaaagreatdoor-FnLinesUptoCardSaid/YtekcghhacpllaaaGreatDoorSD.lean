/- Contracts of functions of this program, by the evaluator EN. No conditions but those that each theorem states. -/
import Derived.Test.YtekcghhacpllaaaGreatDoorSB
import Derived.RangeFuncNested
import Derived.RangeFuncBox
import Derived.RangeFuncLeaves
import Derived.Shelf.Abstract
import Derived.WalkKit
import Derived.OwnWalkIn
import Derived.TacticsInMore
import Derived.LoopNIn
import Derived.LoopIn
import Derived.Test.YtekcghhacpllaaaGreatDoorKJ
import Derived.Test.YtekcghhacpllaaaGreatDoorGB
set_option linter.unusedVariables false
set_option linter.unusedSimpArgs false
set_option maxRecDepth 100000
set_option maxHeartbeats 8000000
namespace Go.Proofs.SL
open Go Go.Proofs Go.Proofs.EN Go.Proofs.VT Go.RowKit Go.Shelf
attribute [local go_sem] Oper.semAt_some
/-- What has come when k rounds are over: f 0, .., f (k - 1). -/
def upto' {α : Type} (f : Nat → α) (k : Nat) : List α := (List.range k).map f
theorem upto'_succ {α : Type} (f : Nat → α) (k : Nat) : upto' f (k + 1) = upto' f k ++ [f k] := by simp [upto', List.range_succ]
theorem upto'_length {α : Type} (f : Nat → α) (k : Nat) : (upto' f k).length = k := by simp [upto']
/-- The j-th pair that comes from behind. -/
def bk (zs : List Ver) (j : Nat) : Nat × Ver := (zs.length - 1 - j, (zs[zs.length - 1 - j]?).getD default)
def vV (p : Ver) : Value := .agg #[.int .i64 p.1, .int .i64 p.2]
/-- A slice value holds these, in a block below n₀. -/
def Vers (n₀ : Nat) (W : World) (sv : Value) (zs : List Ver) : Prop :=
  (zs = [] ∧ ∃ a cap, sv = .slice a 0 cap) ∨ ∃ b off cap, sv = .slice (some ⟨b, off, none⟩) zs.length cap ∧ b < n₀ ∧ ∀ j, j < zs.length → W.cell? ⟨b, off + j * 2, none⟩ = some (.int .i64 ((zs[j]?).getD default).1) ∧ W.cell? ⟨b, off + j * 2 + 1, none⟩ = some (.int .i64 ((zs[j]?).getD default).2)
set_option maxHeartbeats 20000000 in
theorem back1_in (F : Fence) (n : Nat) (h8 : F.fn 154) (hro : F.round = none) (hn : 1 ≤ n) (l Bs n₀ b off cap : Nat) (zs : List Ver) (hreach : zs.length ≤ 4294967296) (hb : b < n₀) (J Jx : List (Nat × Ver) → World → Prop)
    (hY : ∀ pre x W, J pre W → pre.length < zs.length → YieldAt F (n - 1) Tryz.prog l #[.int .i64 (x.1 : Int), vV x.2] W fun e W' =>
      (e = .returned (.bool true) ∧ J (pre ++ [x]) W' ∧ Below n₀ W W') ∨ (e = .returned (.bool false) ∧ Jx (pre ++ [x]) W'))
    (W : World) (hBs : W.cell? ⟨Bs, 0, none⟩ = some (.slice (some ⟨b, off, none⟩) zs.length cap)) (hBn : Bs < n₀)
    (hc : ∀ j, j < zs.length → W.cell? ⟨b, off + j * 2, none⟩ = some (.int .i64 ((zs[j]?).getD default).1) ∧ W.cell? ⟨b, off + j * 2 + 1, none⟩ = some (.int .i64 ((zs[j]?).getD default).2)) (h0 : J [] W) :
    CallsIn F n Tryz.prog 154 #[.func (.yield l) #[] #[], .pointer (some ⟨Bs, 0, none⟩)] W fun e W' => (∃ v, e = .returned v) ∧
      ((∃ ys, ys = upto' (bk zs) zs.length ∧ J ys W') ∨ (∃ pre, (∃ k, k ≤ zs.length ∧ pre = upto' (bk zs) k) ∧ Jx pre W')) := by
  refine callsIn_of_wp Tryz.func154 rfl h8 ?_ hro
  simp only [Tryz.ntmps154, List.size_toArray, List.length_cons, List.length_nil, Nat.reduceAdd, Nat.reduceSub, Array.replicate_succ, Array.replicate_zero, List.push_toArray, List.append_toArray, List.nil_append, List.cons_append]
  gi_wp2
  gi_loopw [3] (fun i wr => ∃ k : Nat, k ≤ zs.length ∧ i = .int .i64 ((zs.length : Int) - 1 - k) ∧ J (upto' (bk zs) k) wr ∧ Below n₀ W wr)
    (fun i _ => (intOf i + 1).toNat)
  case atStart => exact ⟨0, Nat.zero_le _, by simp, h0, Below.refl _ _⟩
  case round =>
    obtain ⟨k, hk, rfl, hJs, hnx⟩ := hrel
    have hBs' : wr.cell? ⟨Bs, 0, none⟩ = some (.slice (some ⟨b, off, none⟩) zs.length cap) := (hnx.cell (p := ⟨Bs, 0, none⟩) hBn).trans hBs
    by_cases hlt : k < zs.length
    · have hj : zs.length - 1 - k < zs.length := by omega
      obtain ⟨hc1, hc2⟩ := hc _ hj
      have hd1 : wr.cell? ⟨b, off + (zs.length - 1 - k) * 2, none⟩ = some (.int .i64 ((zs[zs.length - 1 - k]?).getD default).1) := (hnx.cell (p := ⟨b, off + (zs.length - 1 - k) * 2, none⟩) hb).trans hc1
      have hd2 : wr.cell? ⟨b, off + (zs.length - 1 - k) * 2 + 1, none⟩ = some (.int .i64 ((zs[zs.length - 1 - k]?).getD default).2) := (hnx.cell (p := ⟨b, off + (zs.length - 1 - k) * 2 + 1, none⟩) hb).trans hc2
      obtain ⟨fn, tmps, assign, body, hy, hR⟩ := hY _ (bk zs k) wr hJs (by rw [upto'_length]; exact hlt)
      have ei : (zs.length : Int) - 1 - k = ((zs.length - 1 - k : Nat) : Int) := by omega
      simp only [bk, vV] at hy
      have eb : bk zs k = (zs.length - 1 - k, (zs[zs.length - 1 - k]?).getD default) := rfl
      generalize (zs[zs.length - 1 - k]?).getD default = p at hd1 hd2 hy eb
      obtain ⟨p1, p2⟩ := p
      generalize zs.length - 1 - k = j at ei hd1 hd2 hy eb hj
      gi_wp2
      refine hR.mono ?_
      rintro e W3 (⟨rfl, hJ3, hk3⟩ | ⟨rfl, hJx3⟩)
      · gi_wp2
        go_roundw
        case rel => exact ⟨k + 1, by omega, by simp; omega, by rw [upto'_succ]; exact hJ3, hnx.trans hk3⟩
        case measure => simp [intOf]; omega
      · gi_wp2
        refine bodyPost_ret (results_none rfl _ _ _) rfl ?_
        exact ⟨⟨_, rfl⟩, .inr ⟨_, ⟨k + 1, by omega, (upto'_succ _ _).symm⟩, hJx3⟩⟩
    · obtain rfl : k = zs.length := by omega
      gi_wp2
      go_end0
      exact ⟨⟨_, rfl⟩, .inl ⟨_, rfl, hJs⟩⟩
set_option maxHeartbeats 20000000 in
theorem back1_nil_in (F : Fence) (n : Nat) (h8 : F.fn 154) (hro : F.round = none) (l Bs : Nat) (a : Option Addr) (cap : Nat) (J : List (Nat × Ver) → World → Prop) (W : World) (hBs : W.cell? ⟨Bs, 0, none⟩ = some (.slice a 0 cap)) (h0 : J [] W) :
    CallsIn F n Tryz.prog 154 #[.func (.yield l) #[] #[], .pointer (some ⟨Bs, 0, none⟩)] W fun e W' => (∃ v, e = .returned v) ∧ J [] W' := by
  refine callsIn_of_wp Tryz.func154 rfl h8 ?_ hro
  simp only [Tryz.ntmps154, List.size_toArray, List.length_cons, List.length_nil, Nat.reduceAdd, Nat.reduceSub, Array.replicate_succ, Array.replicate_zero, List.push_toArray, List.append_toArray, List.nil_append, List.cons_append]
  gi_wp2
  gi_loopw [3] (fun i wr => i = .int .i64 (-1) ∧ J [] wr) (fun _ _ => 0)
  case atStart => exact ⟨rfl, h0⟩
  case round =>
    obtain ⟨rfl, hJs⟩ := hrel
    gi_wp2
    go_end0
    exact ⟨⟨_, rfl⟩, hJs⟩
/-- slices.Backward: the slice is boxed; the function value holds the box. -/
theorem back_in (F : Fence) (n : Nat) (h6 : F.fn 135) (hro : F.round = none) (a : Option Addr) (len cap : Nat) (w : World) :
    CallsIn F n Tryz.prog 135 #[.slice a len cap] w fun e w' => e = .returned (.func (.func 154) #[] #[.pointer (some ⟨w.heap.size, 0, none⟩)]) ∧ w' = w.alloc (.cells #[.slice a len cap] 141) := by
  refine callsIn_of_wp Tryz.func135 rfl h6 ?_ hro
  simp only [Tryz.ntmps135, List.size_toArray, List.length_cons, List.length_nil, Nat.reduceAdd, Nat.reduceSub, Array.replicate_succ, Array.replicate_zero, List.push_toArray, List.append_toArray, List.nil_append, List.cons_append]
  gi_wp2
  go_ret
  exact ⟨rfl, rfl⟩
theorem Vers.below {n₀ : Nat} {A B : World} (h : Below n₀ A B) {sv : Value} {zs : List Ver} : Vers n₀ A sv zs → Vers n₀ B sv zs
  | .inl e => .inl e
  | .inr ⟨b, off, cap, e, hb, hc⟩ => .inr ⟨b, off, cap, e, hb, fun j hj => ⟨(h.cell (p := ⟨b, off + j * 2, none⟩) hb).trans (hc j hj).1, (h.cell (p := ⟨b, off + j * 2 + 1, none⟩) hb).trans (hc j hj).2⟩⟩
theorem back_stops (F : Fence) (n : Nat) (h8 : F.fn 154) (hro : F.round = none) (hn : 1 ≤ n) (Bs n₀ : Nat) (sv : Value) (zs : List Ver) (hreach : zs.length ≤ 4294967296) (w : World) (hBs : Bs < n₀) (hn₀ : n₀ ≤ w.heap.size)
    (hc : w.cell? ⟨Bs, 0, none⟩ = some sv) (hI : Vers n₀ w sv zs) :
    SeqStopsK F n Tryz.prog 154 #[.pointer (some ⟨Bs, 0, none⟩)] (fun x : Nat × Ver => #[Value.int .i64 (x.1 : Int), vV x.2]) (Below n₀) (fun ys => ys = upto' (bk zs) zs.length)
      (fun pre => ∃ k, k ≤ zs.length ∧ pre = upto' (bk zs) k) zs.length w := fun l J Jx W hW _ _ hY h0 => by
  have hc' := (hW.cell (p := ⟨Bs, 0, none⟩) (show Bs < _ by omega)).trans hc
  rcases hI.below (hW.mono hn₀) with ⟨rfl, a, cap, rfl⟩ | ⟨b, off, cap, rfl, hb, hcs⟩
  · exact (back1_nil_in F n h8 hro l Bs a cap J W hc' h0).mono fun e W' ⟨he, hj⟩ => ⟨he, .inl ⟨_, rfl, hj⟩⟩
  · exact back1_in F n h8 hro hn l Bs n₀ b off cap zs hreach hb J Jx hY W hc' hBs hcs h0
theorem rdAt_take (zs : List Ver) (ts : Int) (m : Nat) (h : m < zs.length) : rdAt (zs.take (m + 1)) ts = if ((zs[m]?).getD default).1 ≤ ts then ((zs[m]?).getD default).2 else rdAt (zs.take m) ts := by
  rw [take_succ_get zs m default h]; simp [rdAt, List.foldl_append]
theorem rdAt_skip (zs : List Ver) (ts : Int) : ∀ k, k ≤ zs.length → (∀ p ∈ upto' (bk zs) k, ¬ p.2.1 ≤ ts) → rdAt zs ts = rdAt (zs.take (zs.length - k)) ts
  | 0, _, _ => by simp
  | k + 1, hk, hp => by
    rw [upto'_succ] at hp
    rw [rdAt_skip zs ts k (by omega) fun p h => hp p (List.mem_append_left _ h), show zs.length - k = (zs.length - (k + 1)) + 1 by omega, rdAt_take zs ts _ (by omega)]
    have := hp (bk zs k) (by simp)
    simp only [bk] at this
    rw [show zs.length - (k + 1) = zs.length - 1 - k by omega, if_neg this]
theorem box2_own (Bx : Nat) (o : Obj) (hc : o.isCells = true) : Own (fun (_ : Unit) W => W.heap[Bx]? = some o) := fun s X Y row hs hg hrow => (grownBy_keeps_cells hg hrow hs hc).trans hs
def rI (w : World) (ts : Int) (pre : List (Nat × Ver)) (W : World) : Prop := (((∀ p ∈ pre, ts < p.2.1) ∧ Boxed W (w.heap.size + 1) 3 (.int .i64 ts)) ∧ Boxed W (w.heap.size + 1 + 1) 3 (.int .i64 0)) ∧ (Below w.heap.size w W ∧ w.heap.size + 4 ≤ W.heap.size)
def rX (w : World) (ts : Int) (c : Code) (pre : List (Nat × Ver)) (W : World) : Prop := ((c = .ret ∧ ∃ ini last, pre = ini ++ [last] ∧ (∀ p ∈ ini, ts < p.2.1) ∧ last.2.1 ≤ ts ∧ Boxed W (w.heap.size + 1 + 1) 3 (.int .i64 last.2.2))) ∧ Below w.heap.size w W
set_option maxHeartbeats 40000000 in
theorem readAt_in (F : Fence) (n : Nat) (h3 : F.fn 109) (h6 : F.fn 135) (h8 : F.fn 154) (hro : F.round = none) (hn : 3 ≤ n) (b off m cap key : Nat) (a : Option Addr) (cap2 : Nat) (now ts : Int) (zs : List Ver) (hreach : zs.length ≤ 4294967296) (w : World) (hkey : key < m) (hm : m ≤ 4294967296) (hb : b < w.heap.size)
    (hc : w.cell? ⟨b, off + key, none⟩ = some (.slice a zs.length cap2)) (hI : Vers w.heap.size w (.slice a zs.length cap2) zs) :
    CallsIn F n Tryz.prog 109 #[.agg #[.slice (some ⟨b, off, none⟩) m cap, .int .i64 now], .int .i64 (key : Int), .int .i64 ts] w fun e W' => e = .returned (.int .i64 (rdAt zs ts)) ∧ Below w.heap.size w W' := by
  have h1 : 1 ≤ n := by omega
  refine callsIn_of_wp_marks Tryz.func109 rfl h3 ?_ hro
  simp only [Tryz.ntmps109, List.size_toArray, List.length_cons, List.length_nil, Nat.reduceAdd, Nat.reduceSub, Array.replicate_succ, Array.replicate_zero, List.push_toArray, List.append_toArray, List.nil_append, List.cons_append]
  have hA : Below w.heap.size w (((w.alloc (.cells #[.slice (some ⟨b, off, none⟩) m cap, .int .i64 now] 57)).alloc (.cells #[.int .i64 ts] 3)).alloc (.cells #[.int .i64 0] 3)) := (((Below.refl _ w).alloc (Nat.le_refl _) _).alloc (by simp) _).alloc (by simp; omega) _
  have hc3 := (hA.cell (p := ⟨b, off + key, none⟩) hb).trans hc
  gi_wp2_with (gi_at_call 135; refine (back_in F (n - 1) h6 hro _ _ _ _).mono ?_; rintro e w' ⟨rfl, rfl⟩)
  have bT := ((Boxed.new (w.alloc (.cells #[.slice (some ⟨b, off, none⟩) m cap, .int .i64 now] 57)) 3 (.int .i64 ts)).alloc (.cells #[.int .i64 0] 3)).alloc (.cells #[.slice a zs.length cap2] 141)
  have bR := (Boxed.new ((w.alloc (.cells #[.slice (some ⟨b, off, none⟩) m cap, .int .i64 now] 57)).alloc (.cells #[.int .i64 ts] 3)) 3 (.int .i64 0)).alloc (.cells #[.slice a zs.length cap2] 141)
  have bN := Boxed.new (((w.alloc (.cells #[.slice (some ⟨b, off, none⟩) m cap, .int .i64 now] 57)).alloc (.cells #[.int .i64 ts] 3)).alloc (.cells #[.int .i64 0] 3)) 141 (.slice a zs.length cap2)
  have hB0 := hA.alloc (by simp; omega) (.cells #[.slice a zs.length cap2] 141)
  have hsz : ((((w.alloc (.cells #[.slice (some ⟨b, off, none⟩) m cap, .int .i64 now] 57)).alloc (.cells #[.int .i64 ts] 3)).alloc (.cells #[.int .i64 0] 3)).alloc (.cells #[.slice a zs.length cap2] 141)).heap.size = w.heap.size + 4 := by simp
  simp only [World.size_alloc] at bT bR bN
  obtain ⟨W0, hW0⟩ : ∃ W0, (((w.alloc (.cells #[.slice (some ⟨b, off, none⟩) m cap, .int .i64 now] 57)).alloc (.cells #[.int .i64 ts] 3)).alloc (.cells #[.int .i64 0] 3)).alloc (.cells #[.slice a zs.length cap2] 141) = W0 := ⟨_, rfl⟩
  rw [hW0] at bT bR bN hB0 hsz ⊢
  clear hW0 hc3 hA
  have hI0 : Vers (w.heap.size + 4) W0 (.slice a zs.length cap2) zs := by
    rcases hI.below hB0 with h | ⟨b', off', cap', e, hb', hc'⟩
    · exact .inl h
    · exact .inr ⟨b', off', cap', e, by omega, hc'⟩
  refine wpIn_rangeFunc_ownH hro h1 (gf := 154) (lb := #[.pointer (some ⟨w.heap.size + 1 + 1 + 1, 0, none⟩)]) rfl h8 (enters_of Tryz.func154 (by kernel_rfl) rfl)
    (back_stops F (n - 1) h8 hro (by omega) (w.heap.size + 1 + 1 + 1) (w.heap.size + 4) _ zs hreach W0 (by omega) (by omega) bN.cell hI0) belowK_t (belowK_b (by omega)) (Below.refl _ _) (fun _ => rfl)
    (rI w ts) (rX w ts)
    (OwnFrom.and (OwnFrom.and (OwnFrom.and (fun s X Y row hs hg hr => hs) (Own.from (boxed_own _ _ _) _)) (Own.from (boxed_own _ _ _) _)) (OwnFrom.and (ownFrom_below (Nat.le_refl _) (by omega)) (fun s X Y row hs hg hr => Nat.le_trans hs hg.size)))
    (fun c => OwnFrom.and (fun s X Y row hs hg hr => by obtain ⟨hc, ini, last, e1, e2, e3, e4⟩ := hs; exact ⟨hc, ini, last, e1, e2, e3, boxed_own _ 3 (fun (_ : Unit) => Value.int .i64 last.2.2) () X Y row e4 hg (fun r e => (hr r e).2)⟩) (ownFrom_below (Nat.le_refl _) (by omega)))
    ⟨⟨⟨by simp, bT⟩, bR⟩, hB0, by omega⟩
    (fun x a' W => ∃ Bx, w.heap.size + 4 ≤ Bx ∧ W.heap[Bx]? = some (.cells #[.int .i64 x.2.1, .int .i64 x.2.2] 143 (0, 0)) ∧ a' = { tmps := #[Value.agg #[Value.slice (some ⟨b, off, none⟩) m cap, Value.int IntKind.i64 now], Value.int IntKind.i64 (key : Int), Value.int IntKind.i64 ts, Value.pointer (some ⟨w.heap.size, 0, none⟩), Go.undef, Value.pointer (some ⟨w.heap.size + 1, 0, none⟩), Value.pointer (some ⟨w.heap.size + 1 + 1, 0, none⟩), Go.undef, Value.pointer (some ⟨Bx, 0, none⟩), Value.pointer (some ⟨w.heap.size, 0, none⟩), Value.slice (some ⟨b, off, none⟩) m cap, Value.int IntKind.i64 (key : Int), Value.pointer (some ⟨b, off + key, none⟩), Value.slice a zs.length cap2, .func (.func 154) #[] #[.pointer (some ⟨w.heap.size + 1 + 1 + 1, 0, none⟩)], .int .i64 (x.1 : Int), vV x.2, Go.undef, Go.undef, Go.undef, Go.undef, Go.undef, Go.undef], defers := [] })
    (fun x a' _ X Y row hs hg hr => by obtain ⟨Bx, h1, h2, h3⟩ := hs; exact ⟨Bx, h1, box2_own Bx _ rfl () X Y row h2 hg (fun r e => (hr r e).2), h3⟩)
    ?assign ?body ?done ?stop
  case assign =>
    rintro l pre x W K ⟨⟨⟨hp, bT1⟩, bR1⟩, hB1, hsW⟩ hK
    obtain ⟨x0, p1, p2⟩ := x
    simp only [vV]
    gi_wp2
    exact hK _ _ ((KeepsOthers.alloc _ _).from _) ((Below.refl _ W).alloc (by omega) _) ⟨⟨⟨hp, bT1.alloc _⟩, bR1.alloc _⟩, hB1.alloc hB1.size _, by simp; omega⟩ ⟨W.heap.size, by omega, World.alloc_heap_new W _, rfl⟩
  case body =>
    rintro l pre ⟨x0, p1, p2⟩ a' W hl _ ⟨⟨⟨hp, bT1⟩, bR1⟩, hB1, hsW⟩ ⟨Bx, hBx, bX, rfl⟩ hlt
    have cT := bT1.cell
    have cR := bR1.cell
    have fR := bR1.frozen
    have y1 : W.cell? ⟨Bx, 0, none⟩ = some (.int .i64 p1) := by simp [World.cell?, bX]
    have y2 : W.cell? ⟨Bx, 1, none⟩ = some (.int .i64 p2) := by simp [World.cell?, bX]
    gi_wp2
    · exact ⟨(KeepsOthers.setCell _ _ _).from _, ⟨rfl, pre, _, rfl, hp, by assumption, bR1.set _⟩, hB1.setCell (p := ⟨w.heap.size + 1 + 1, 0, none⟩) (by show w.heap.size ≤ w.heap.size + 1 + 1; omega) _⟩
    · exact ⟨KeepsFrom.refl _ _, Below.refl _ _, ⟨⟨fun p h => (List.mem_append.1 h).elim (hp p) (fun e => by simp at e; subst e; assumption), bT1⟩, bR1⟩, hB1, hsW⟩
  case done =>
    rintro D ys W hD rfl ⟨⟨⟨hp, bT1⟩, bR1⟩, hB1, hsW⟩ hK
    have cR := bR1.cell
    have fR := bR1.frozen
    gi_wp2
    have hK' := (KeepsOthers.setCell W ⟨w.heap.size + 1 + 1, 0, none⟩ (.int .i64 0)).same D _ hK rfl
    refine ⟨by simp, .inl ⟨_, _, rfl, run_takeDeferred hK', ?_⟩⟩
    have hc5 := cell_kept (World.cell?_setCell_same' W ⟨w.heap.size + 1 + 1, 0, none⟩ (.int .i64 0) (by rw [cR]; rfl)) (grownBy_putObj' _ D (.deferred none)) (fun r e => by cases e; exact ⟨_, hK', rfl⟩)
    have hz : rdAt zs ts = 0 := by
      rw [rdAt_skip zs ts zs.length (Nat.le_refl _) fun p h => Int.not_le.2 (hp p h)]; simp [rdAt]
    refine ⟨.int .i64 0, ?_, by rw [hz], (hB1.setCell (p := ⟨w.heap.size + 1 + 1, 0, none⟩) (by show w.heap.size ≤ w.heap.size + 1 + 1; omega) _).trans (belowK_b (w := w) (Nat.le_refl _) _ D _ _ (by omega) hK' rfl rfl)⟩
    simp [results, Tryz.f109, go_sem, hc5]
  case stop =>
    rintro D c pre W hD ⟨k, hk, rfl⟩ ⟨⟨rfl, ini, last, e1, e2, e3, bR1⟩, hB1⟩ hK
    have cR := bR1.cell
    gi_wp2
    refine ⟨by simp, .inl ⟨_, _, rfl, run_takeDeferred hK, ?_⟩⟩
    have hc5 := cell_kept cR (grownBy_putObj' _ D (.deferred none)) (fun r e => by cases e; exact ⟨_, hK, rfl⟩)
    obtain ⟨k', rfl⟩ : ∃ k', k = k' + 1 := by
      cases k with
      | zero => simp [upto'] at e1
      | succ k' => exact ⟨k', rfl⟩
    rw [upto'_succ] at e1
    obtain ⟨rfl, e5⟩ := List.append_inj' e1 rfl
    obtain rfl : bk zs k' = last := by simpa using e5
    have hz : rdAt zs ts = (bk zs k').2.2 := by
      rw [rdAt_skip zs ts k' (by omega) fun p h => Int.not_le.2 (e2 p h), show zs.length - k' = (zs.length - 1 - k') + 1 by omega, rdAt_take zs ts _ (by omega)]
      exact if_pos e3
    refine ⟨.int .i64 (bk zs k').2.2, ?_, by rw [hz], hB1.trans (belowK_b (w := w) (Nat.le_refl _) W D _ _ (by omega) hK rfl rfl)⟩
    simp [results, Tryz.f109, go_sem, hc5]
end Go.Proofs.SL
set_option linter.unusedVariables false
set_option linter.unusedSimpArgs false
set_option maxRecDepth 100000
set_option maxHeartbeats 8000000
namespace Go.Proofs.SL
open Go Go.Proofs Go.Proofs.EN Go.Proofs.VT Go.RowKit
variable {T : Tabs}
theorem vers_of {w : World} {S : Nat → Prop} (hS : ∀ b, S b → b < w.heap.size) {v : Value} {q : List Ver} (h : Rep tt w S v (.list 143 (dVs q))) : Vers w.heap.size w v q := by
  rcases rep_list_inv h with ⟨h0, a, cap, rfl⟩ | ⟨ti, b, off, cap, vs, ht, rfl, hb, hSb, hcp, h0, hc, hr⟩
  · exact .inl ⟨by simpa [dVs] using h0, a, cap, rfl⟩
  · obtain rfl : (⟨.struct [(0, 3), (1, 3)], [.int .i64, .int .i64], 16⟩ : TI) = ti := Option.some.inj ((show tt 143 = some _ by rfl).symm.trans ht)
    refine .inr ⟨b, off, cap, by simp, hS b hSb, fun j hj => ?_⟩
    have hj' : j < (dVs q).length := by simpa using hj
    have e0 := hc j 0 hj' (by simp)
    have e1 := hc j 1 hj' (by simp)
    have r0 := hr j 0 hj' (by simp)
    have r1 := hr j 1 hj' (by simp)
    have g0 : ((dVs q).getD j []).getD 0 .z = .int .i64 ((q[j]?).getD default).1 := by simp [dVs, dV, hj]
    have g1 : ((dVs q).getD j []).getD 1 .z = .int .i64 ((q[j]?).getD default).2 := by simp [dVs, dV, hj]
    rw [g0] at r0
    rw [g1] at r1
    have v0 : vs j 0 = .int .i64 ((q[j]?).getD default).1 := by generalize vs j 0 = v at r0; cases r0; rfl
    have v1 : vs j 1 = .int .i64 ((q[j]?).getD default).2 := by generalize vs j 1 = v at r1; cases r1; rfl
    rw [v0] at e0
    rw [v1] at e1
    simp only [List.length_cons, List.length_nil, Nat.zero_add, Nat.reduceAdd, Nat.add_zero] at e0 e1
    exact ⟨e0, by rw [Nat.add_assoc]; exact e1⟩
theorem w109 {cs : List (List Ver)} {now ts : Int} {key : Nat} {Kr Kp : C → List Ob → R} (hk : key < cs.length) (h : Kr (.d (.int .i64 (rdAt ((cs[key]?).getD []) ts))) []) : Wp T Tryz.prog tt 109 [.agg [.d (.list 141 (dCh 143 cs)), .d (.int .i64 now)], .d (.int .i64 (key : Int)), .d (.int .i64 ts)] [] Kr Kp := by
  refine Wp.ofPure (enters_of Tryz.func109 (by kernel_rfl) rfl) (fun i hi => ?_) rfl (fun w S vs hS hT hl hv => ?_) h
  · match i, hi with
    | 0, _ => rfl
    | 1, _ => rfl
    | 2, _ => rfl
  · match vs, hl with
    | [v0, v1, v2], _ =>
      have h0 := hv 0 (by simp)
      have h1 : v1 = .int .i64 (key : Int) := by have := hv 1 (by simp); cases this with | d _ _ h => cases h; rfl
      have h2 : v2 = .int .i64 ts := by have := hv 2 (by simp); cases this with | d _ _ h => cases h; rfl
      subst h1
      subst h2
      cases h0 with
      | agg _ us hul hr =>
        have hul : us.size = 2 := hul
        match us, hul with
        | ⟨[u0, u1]⟩, _ =>
          have k0 : Rep tt w S u0 (.list 141 (dCh 143 cs)) := by have := hr 0 (by simp); cases this with | d _ _ h => exact h
          have k1 : u1 = .int .i64 now := by have := hr 1 (by simp); cases this with | d _ _ h => cases h; rfl
          subst k1
          rcases rep_list_inv k0 with ⟨h0, _⟩ | ⟨ti, b, off, cap, us, ht, rfl, hb, hSb, hcp, h0, hc, hrr⟩
          · simp [dCh] at h0; subst h0; simp at hk
          · obtain rfl : (⟨.slice 143, [.list 143], 24⟩ : TI) = ti := Option.some.inj ((show tt 141 = some _ by rfl).symm.trans ht)
            have hk' : key < (dCh 143 cs).length := by simpa using hk
            have e0 := hc key 0 hk' (by simp)
            have r0 := hrr key 0 hk' (by simp)
            have g0 : ((dCh 143 cs).getD key []).getD 0 .z = .list 143 (dVs ((cs[key]?).getD [])) := by simp [dCh, hk]
            rw [g0] at r0
            have hV := vers_of hS r0
            have hq : ((cs[key]?).getD []).length ≤ 4294967296 := by
              rcases rep_list_inv r0 with ⟨h0, _⟩ | ⟨_, _, _, _, _, _, _, hb, _⟩
              · have : ((cs[key]?).getD []) = [] := by simpa [dVs] using h0
                simp [this]
              · simpa [big] using hb
            obtain ⟨a, cap2, ev⟩ : ∃ a cap2, us key 0 = .slice a ((cs[key]?).getD []).length cap2 := by
              rcases hV with ⟨h0, a, cap, e⟩ | ⟨b, off, cap, e, _⟩
              · exact ⟨a, cap, by rw [e, h0]; rfl⟩
              · exact ⟨_, cap, e⟩
            rw [ev] at e0 hV
            have hm : (dCh 143 cs).length ≤ 4294967296 := by simpa [big] using hb
            have := callsIn_wide.1 (readAt_in Fence.wide 3 trivial trivial trivial rfl (by omega) b off (dCh 143 cs).length cap key a cap2 now ts _ hq w (by simpa using hk) hm (hS b hSb) (by simpa using e0) hV)
            refine this.mono fun e w' ⟨he, hB⟩ => ⟨_, he, kept_below hB, .d _ _ (.int _ _)⟩
end Go.Proofs.SL
set_option linter.unusedVariables false
set_option linter.unusedSimpArgs false
set_option maxRecDepth 100000
set_option maxHeartbeats 8000000
namespace Go.Proofs.SL
open Go Go.Proofs Go.Proofs.EN Go.Proofs.VT Go.RowKit
variable {T : Tabs}
end Go.Proofs.SL
set_option linter.unusedVariables false
set_option linter.unusedSimpArgs false
set_option maxRecDepth 100000
set_option maxHeartbeats 8000000
namespace Go.Proofs.SL
open Go Go.Proofs Go.Proofs.EN Go.Proofs.VT
variable {T : Tabs}
/-- A word of a line. -/
inductive Pt where
  | txt (t : Str)
  | num (n : Int)
def Pt.d : Pt → List D
  | .txt t => [.iface 9 (.str t)]
  | .num n => [.iface 3 (.int .i64 n)]
def Pt.t : Pt → Str
  | .txt t => t
  | .num n => Lib.itoa n
def inR : Pt → Prop
  | .txt _ => True
  | .num n => -9223372036854775808 ≤ n ∧ n ≤ 9223372036854775807
theorem w110 {ps : List Pt} {Kr Kp : C → List Ob → R} (hP : HasPow T) (hr : ∀ p ∈ ps, inR p) (hl : (Lib.join (ps.map Pt.t) [32]).length ≤ 4294967296) (h : Kr (.d (.str (Lib.join (ps.map Pt.t) [32]))) []) : Wp T Tryz.prog tt 110 [.d (.list 20 (ps.map Pt.d))] [] Kr Kp := by
  refine go (k := 110) (own := true) (cap := .deep) Tryz.func110 (by kernel_rfl) ?_
  (conv => whnf); repeat' (first | ((first | refine bdec ?_ ?_ | refine bnot ?_ ?_ | refine bsel_intro ?_ ?_ | skip) <;> intro hc <;> (try simp (disch := omega) only [List.getD_eq_getElem?_getD, Int.toNat_natCast, toNat_sub1, toNat_add1, CK.norm, big, dVs_len, dCh_len, dStr_len, dVs_0, dVs_1, dCh_0, dStr_0, Nat.zero_add, List.length_map, List.length_take, List.length_append, List.length_cons, List.length_nil, List.length_replicate, not_true_eq_false, wrapI] at hc) <;> conv => whnf) | (refine .head _ rfl (by kernel_rfl) ?_; conv => whnf) | (refine And.intro ?_ ?_; (focus ((first | omega | decide | (simp (disch := omega) only [List.getD_eq_getElem?_getD, Int.toNat_natCast, toNat_sub1, toNat_add1, CK.norm, big, dVs_len, dCh_len, dStr_len, dVs_0, dVs_1, dCh_0, dStr_0, Nat.zero_add, List.length_map, List.length_take, List.length_append, List.length_cons, List.length_nil, List.length_replicate, not_true_eq_false, wrapI] <;> omega) | (simp [strOf, List.getD_eq_getElem?_getD, Int.toNat_natCast, toNat_sub1, toNat_add1, CK.norm, big, dVs_len, dCh_len, dStr_len, dVs_0, dVs_1, dCh_0, dStr_0, Nat.zero_add, List.length_map, List.length_take, List.length_append, List.length_cons, List.length_nil, List.length_replicate, not_true_eq_false] <;> omega) | exact Nat.le_of_ble_eq_true rfl | rfl); done)); conv => whnf) | (rw [vv]; conv => whnf) | (refine NilP.mk fun nb hnb => ?_; conv => whnf))
  refine loopOf (fun i : Nat => ⟨[(3, .row 0), (9, .d (.list 20 (ps.map Pt.d))), (10, .d (.int .i64 ((ps.map Pt.d).length : Int))), (11, .d (.int .i64 (i : Int)))], [.row 9 .deep 0 (dStr ((ps.take i).map Pt.t))]⟩) (fun i => i ≤ ps.length) (fun i => ps.length - i) 0 rfl (Nat.zero_le _) ?_
  intro i I hi rec
  (conv => whnf); repeat' (first | ((first | refine bdec ?_ ?_ | refine bnot ?_ ?_ | refine bsel_intro ?_ ?_ | skip) <;> intro hc <;> (try simp (disch := omega) only [List.getD_eq_getElem?_getD, Int.toNat_natCast, toNat_sub1, toNat_add1, CK.norm, big, dVs_len, dCh_len, dStr_len, dVs_0, dVs_1, dCh_0, dStr_0, Nat.zero_add, List.length_map, List.length_take, List.length_append, List.length_cons, List.length_nil, List.length_replicate, not_true_eq_false, wrapI] at hc) <;> conv => whnf) | (refine .head _ rfl (by kernel_rfl) ?_; conv => whnf) | (refine And.intro ?_ ?_; (focus ((first | omega | decide | (simp (disch := omega) only [List.getD_eq_getElem?_getD, Int.toNat_natCast, toNat_sub1, toNat_add1, CK.norm, big, dVs_len, dCh_len, dStr_len, dVs_0, dVs_1, dCh_0, dStr_0, Nat.zero_add, List.length_map, List.length_take, List.length_append, List.length_cons, List.length_nil, List.length_replicate, not_true_eq_false, wrapI] <;> omega) | (simp [strOf, List.getD_eq_getElem?_getD, Int.toNat_natCast, toNat_sub1, toNat_add1, CK.norm, big, dVs_len, dCh_len, dStr_len, dVs_0, dVs_1, dCh_0, dStr_0, Nat.zero_add, List.length_map, List.length_take, List.length_append, List.length_cons, List.length_nil, List.length_replicate, not_true_eq_false] <;> omega) | exact Nat.le_of_ble_eq_true rfl | rfl); done)); conv => whnf) | (rw [vv]; conv => whnf) | (refine NilP.mk fun nb hnb => ?_; conv => whnf))
  · have hil : i < ps.length := by omega
    generalize hx : ((List.map Pt.d ps).getD (i : Int).toNat []).getD 0 D.z = x
    have hp : (∃ t, x = .iface 9 (.str t) ∧ (ps[i]).t = t) ∨ ∃ n, x = .iface 3 (.int .i64 n) ∧ (ps[i]).t = Lib.itoa n ∧ (-9223372036854775808 ≤ n ∧ n ≤ 9223372036854775807) := by
      have hr := hr (ps[i]) (List.getElem_mem hil)
      simp only [Int.toNat_natCast, List.getD_eq_getElem?_getD, List.getElem?_map, List.getElem?_eq_getElem hil, Option.map_some, Option.getD_some] at hx
      subst hx
      generalize ps[i] = p at hr ⊢
      cases p with
      | txt t => exact .inl ⟨t, rfl, rfl⟩
      | num n => exact .inr ⟨n, rfl, rfl, hr⟩
    have ht : ps.take (i + 1) = ps.take i ++ [ps[i]] := by rw [List.take_add_one]; simp [hil]
    rcases hp with ⟨t, rfl, hpt⟩ | ⟨n, rfl, hpt, hn⟩
    · (conv => whnf); repeat' (first | ((first | refine bdec ?_ ?_ | refine bnot ?_ ?_ | refine bsel_intro ?_ ?_ | skip) <;> intro hc <;> (try simp (disch := omega) only [List.getD_eq_getElem?_getD, Int.toNat_natCast, toNat_sub1, toNat_add1, CK.norm, big, dVs_len, dCh_len, dStr_len, dVs_0, dVs_1, dCh_0, dStr_0, Nat.zero_add, List.length_map, List.length_take, List.length_append, List.length_cons, List.length_nil, List.length_replicate, not_true_eq_false, wrapI] at hc) <;> conv => whnf) | (refine .head _ rfl (by kernel_rfl) ?_; conv => whnf) | (refine And.intro ?_ ?_; (focus ((first | omega | decide | (simp (disch := omega) only [List.getD_eq_getElem?_getD, Int.toNat_natCast, toNat_sub1, toNat_add1, CK.norm, big, dVs_len, dCh_len, dStr_len, dVs_0, dVs_1, dCh_0, dStr_0, Nat.zero_add, List.length_map, List.length_take, List.length_append, List.length_cons, List.length_nil, List.length_replicate, not_true_eq_false, wrapI] <;> omega) | (simp [strOf, List.getD_eq_getElem?_getD, Int.toNat_natCast, toNat_sub1, toNat_add1, CK.norm, big, dVs_len, dCh_len, dStr_len, dVs_0, dVs_1, dCh_0, dStr_0, Nat.zero_add, List.length_map, List.length_take, List.length_append, List.length_cons, List.length_nil, List.length_replicate, not_true_eq_false] <;> omega) | exact Nat.le_of_ble_eq_true rfl | rfl); done)); conv => whnf) | (rw [vv]; conv => whnf) | (refine NilP.mk fun nb hnb => ?_; conv => whnf))
      refine eqI (rec (i + 1) (by omega) (by omega)) ?_
      rw [wrapS (by omega), ht]
      simp only [dStr, List.map_append, List.map_cons, List.map_nil, hpt]
      rfl
    · have hil2 := itoa_len hn
      (conv => whnf); repeat' (first | ((first | refine bdec ?_ ?_ | refine bnot ?_ ?_ | refine bsel_intro ?_ ?_ | skip) <;> intro hc <;> (try simp (disch := omega) only [List.getD_eq_getElem?_getD, Int.toNat_natCast, toNat_sub1, toNat_add1, CK.norm, big, dVs_len, dCh_len, dStr_len, dVs_0, dVs_1, dCh_0, dStr_0, Nat.zero_add, List.length_map, List.length_take, List.length_append, List.length_cons, List.length_nil, List.length_replicate, not_true_eq_false, wrapI] at hc) <;> conv => whnf) | (refine .head _ rfl (by kernel_rfl) ?_; conv => whnf) | (refine w118 hP hn ?_; conv => whnf) | (apply pcall; (focus (intro _ _ hk; first | exact w118 hP hn hk)); conv => whnf) | (refine And.intro ?_ ?_; (focus ((first | omega | decide | (simp (disch := omega) only [List.getD_eq_getElem?_getD, Int.toNat_natCast, toNat_sub1, toNat_add1, CK.norm, big, dVs_len, dCh_len, dStr_len, dVs_0, dVs_1, dCh_0, dStr_0, Nat.zero_add, List.length_map, List.length_take, List.length_append, List.length_cons, List.length_nil, List.length_replicate, not_true_eq_false, wrapI] <;> omega) | (simp [strOf, List.getD_eq_getElem?_getD, Int.toNat_natCast, toNat_sub1, toNat_add1, CK.norm, big, dVs_len, dCh_len, dStr_len, dVs_0, dVs_1, dCh_0, dStr_0, Nat.zero_add, List.length_map, List.length_take, List.length_append, List.length_cons, List.length_nil, List.length_replicate, not_true_eq_false] <;> omega) | exact Nat.le_of_ble_eq_true rfl | rfl); done)); conv => whnf) | (rw [vv]; conv => whnf) | (refine NilP.mk fun nb hnb => ?_; conv => whnf))
      refine eqI (rec (i + 1) (by omega) (by omega)) ?_
      rw [wrapS (by omega), ht]
      simp only [dStr, List.map_append, List.map_cons, List.map_nil, hpt]
      rfl
  · rw [List.take_of_length_le (by omega)]
    refine w48 hl ?_
    (conv => whnf); repeat' (first | ((first | refine bdec ?_ ?_ | refine bnot ?_ ?_ | refine bsel_intro ?_ ?_ | skip) <;> intro hc <;> (try simp (disch := omega) only [List.getD_eq_getElem?_getD, Int.toNat_natCast, toNat_sub1, toNat_add1, CK.norm, big, dVs_len, dCh_len, dStr_len, dVs_0, dVs_1, dCh_0, dStr_0, Nat.zero_add, List.length_map, List.length_take, List.length_append, List.length_cons, List.length_nil, List.length_replicate, not_true_eq_false, wrapI] at hc) <;> conv => whnf) | (refine .head _ rfl (by kernel_rfl) ?_; conv => whnf) | (refine And.intro ?_ ?_; (focus ((first | omega | decide | (simp (disch := omega) only [List.getD_eq_getElem?_getD, Int.toNat_natCast, toNat_sub1, toNat_add1, CK.norm, big, dVs_len, dCh_len, dStr_len, dVs_0, dVs_1, dCh_0, dStr_0, Nat.zero_add, List.length_map, List.length_take, List.length_append, List.length_cons, List.length_nil, List.length_replicate, not_true_eq_false, wrapI] <;> omega) | (simp [strOf, List.getD_eq_getElem?_getD, Int.toNat_natCast, toNat_sub1, toNat_add1, CK.norm, big, dVs_len, dCh_len, dStr_len, dVs_0, dVs_1, dCh_0, dStr_0, Nat.zero_add, List.length_map, List.length_take, List.length_append, List.length_cons, List.length_nil, List.length_replicate, not_true_eq_false] <;> omega) | exact Nat.le_of_ble_eq_true rfl | rfl); done)); conv => whnf) | (rw [vv]; conv => whnf) | (refine NilP.mk fun nb hnb => ?_; conv => whnf))
    exact h
end Go.Proofs.SL
