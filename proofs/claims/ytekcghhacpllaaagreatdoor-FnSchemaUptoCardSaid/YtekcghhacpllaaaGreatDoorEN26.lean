/- Contracts of functions of this program, by the evaluator EN; part EN26. No conditions but those that each theorem states. -/
import Derived.Test.YtekcghhacpllaaaGreatDoorEN25
import Derived.ChangeArms
/- What can be read as data stands for data of the evaluator. -/
namespace Go.Proofs.EN
open Go
set_option linter.unusedVariables false
variable {tt : TypeId → Option TI} {P : Program} {w : World}

/-- Numbers, bools, texts, slices and structs of such, all of them in a list of types. -/
def locF (tt : TypeId → Option TI) (l : List Nat) : List (Nat × TypeId) → Nat → List CK → Bool
  | [], _, cs => cs.isEmpty
  | (off, U) :: r, o, cs => Nat.beq off o && (hasN U l && (match tt U with
    | some tu => ksBeq (cs.take tu.cells.length) tu.cells && (Nat.ble tu.cells.length cs.length && locF tt l r (o + tu.cells.length) (cs.drop tu.cells.length))
    | none => false))
def locT (tt : TypeId → Option TI) (l : List Nat) (T : TypeId) : Bool :=
  match tt T with
  | some ⟨.bool, _, _⟩ => true
  | some ⟨.int _, _, _⟩ => true
  | some ⟨.str, _, _⟩ => true
  | some ⟨.slice e, _, _⟩ => hasN e l && (match tt e with | some te => dataKs te.cells && Nat.blt 0 te.cells.length | none => false)
  | some ⟨.struct fs, cs, _⟩ => locF tt l fs 0 cs
  | _ => false
def locAll (tt : TypeId → Option TI) (l : List Nat) : Bool := l.all (locT tt l)

theorem hasN_mem {o : Nat} : ∀ {l : List Nat}, hasN o l = true → o ∈ l
  | [], h => by cases h
  | x :: xs, h => by
    simp only [hasN] at h
    cases hb : Nat.beq x o with
    | true => rw [Nat.eq_of_beq_eq_true hb]; exact List.mem_cons_self ..
    | false => rw [hb] at h; exact List.mem_cons_of_mem _ (hasN_mem h)
theorem fitsAll_append : ∀ {ks ks' : List CK} {ds ds' : List D}, fitsAll ks ds → fitsAll ks' ds' → fitsAll (ks ++ ks') (ds ++ ds')
  | [], _, [], _, _, h => h
  | [], _, _ :: _, _, h, _ => h.elim
  | _ :: _, _, [], _, h, _ => h.elim
  | k :: ks, _, d :: ds, _, h, h' => ⟨h.1, fitsAll_append h.2 h'⟩

/-- What is small enough, and all that lies in it. -/
structure Smalls {H : Type} (Sm : DataW H → Prop) : Prop where
  str : ∀ b, Sm (.lit (.string b)) → b.length ≤ big
  slice : ∀ es sp, Sm (.slice es sp) → es.length ≤ big ∧ ∀ e ∈ es, Sm e
  agg : ∀ ps, Sm (.agg ps) → ∀ p ∈ ps, Sm p

/-- The cells that stand for data of a type. -/
def RepT (tt : TypeId → Option TI) (w : World) (ks : List CK) (cs : List Value) : Prop :=
  ∃ ds, fitsAll ks ds ∧ cs.length = ks.length ∧ ∀ i, i < ks.length → Rep tt w (fun b => b < w.heap.size) (cs.getD i Go.undef) (ds.getD i .z)

theorem cells_at {a : Addr} {n : Nat} {cs : List Value} (h : w.cells? 0 a n = some cs) : cs.length = n ∧ ∀ i, i < n → w.cell? (a.add i) = some (cs.getD i Go.undef) := by
  unfold World.cells? at h
  rw [if_pos (Nat.zero_le _)] at h
  have : ∀ (l : List Nat) (r : List Value), l.mapM (fun i => w.cell? (a.add i)) = some r → r.length = l.length ∧ ∀ i (hi : i < l.length), w.cell? (a.add l[i]) = some (r.getD i Go.undef) := by
    intro l
    induction l with
    | nil => intro r h; simp at h; subst h; exact ⟨rfl, fun i hi => by cases hi⟩
    | cons x l ih =>
      intro r h
      simp only [List.mapM_cons, Option.bind_eq_bind, Option.bind_eq_some_iff, Option.pure_def, Option.some.injEq] at h
      obtain ⟨y, hy, r', hr, rfl⟩ := h
      obtain ⟨h1, h2⟩ := ih r' hr
      refine ⟨by simp [h1], fun i hi => ?_⟩
      cases i with
      | zero => simpa using hy
      | succ i => simpa using h2 i (by simpa using hi)
  obtain ⟨h1, h2⟩ := this _ _ h
  simp only [List.length_range] at h1 h2
  exact ⟨h1, fun i hi => by simpa using h2 i hi⟩

theorem repF (hT : TTok P tt) {l : List Nat} {cs : List Value} : ∀ (fs : List (Nat × TypeId)) (o : Nat) (ks : List CK), locF tt l fs o ks = true → cs.length = o + ks.length →
    (∀ f ∈ fs, ∀ tu, f.2 ∈ l → tt f.2 = some tu → RepT tt w tu.cells ((cs.drop f.1).take tu.cells.length)) → RepT tt w ks (cs.drop o)
  | [], o, ks, h, hl, _ => by
    simp only [locF, List.isEmpty_iff] at h
    subst h
    exact ⟨[], trivial, by simp at hl ⊢; omega, fun i hi => by cases hi⟩
  | (off, U) :: r, o, ks, h, hl, hf => by
    simp only [locF, Bool.and_eq_true] at h
    obtain ⟨ho, hU, h⟩ := h
    have ho := Nat.eq_of_beq_eq_true ho
    subst ho
    split at h
    · rename_i tu htu
      simp only [Bool.and_eq_true] at h
      obtain ⟨hk, hle, hr⟩ := h
      have hk := ksBeq_eq hk
      have hle : tu.cells.length ≤ ks.length := Nat.le_of_ble_eq_true hle
      obtain ⟨d1, f1, l1, r1⟩ := hf _ (List.mem_cons_self ..) tu (hasN_mem hU) htu
      obtain ⟨d2, f2, l2, r2⟩ := repF hT r (off + tu.cells.length) (ks.drop tu.cells.length) hr (by simp; omega) fun f hm => hf f (List.mem_cons_of_mem _ hm)
      have hks : ks = tu.cells ++ ks.drop tu.cells.length := by
        conv => lhs; rw [← List.take_append_drop tu.cells.length ks]
        rw [hk]
      have hd1 := fitsAll_length f1
      refine ⟨d1 ++ d2, by rw [hks]; exact fitsAll_append f1 f2, by simp; omega, fun i hi => ?_⟩
      by_cases hlt : i < tu.cells.length
      · have := r1 i hlt
        have e1 : ((cs.drop off).take tu.cells.length).getD i Go.undef = (cs.drop off).getD i Go.undef := by
          simp [List.getD_eq_getElem?_getD, hlt]
        have e2 : (d1 ++ d2).getD i .z = d1.getD i .z := by
          simp [List.getD_eq_getElem?_getD, List.getElem?_append_left (show i < d1.length by omega)]
        rw [e1] at this
        rw [e2]
        exact this
      · have := r2 (i - tu.cells.length) (by simp; omega)
        have e1 : (cs.drop (off + tu.cells.length)).getD (i - tu.cells.length) Go.undef = (cs.drop off).getD i Go.undef := by
          simp only [List.getD_eq_getElem?_getD, List.getElem?_drop]
          rw [show off + tu.cells.length + (i - tu.cells.length) = off + i by omega]
        have e2 : (d1 ++ d2).getD i .z = d2.getD (i - tu.cells.length) .z := by
          simp only [List.getD_eq_getElem?_getD]
          rw [List.getElem?_append_right (by omega), hd1]
        rw [e1] at this
        rw [e2]
        exact this
    · cases h

theorem repT_of_trod {H : Type} {enc : TypeId × Value → H} {sp : Nat → Bool} {held : Bool} {Sm : DataW H → Prop} (hS : Smalls Sm) (hT : TTok P tt) {l : List Nat} (hl : locAll tt l = true) : ∀ (fuel : Nat) (T : TypeId) (ti : TI) (cs : List Value) (x : DataW H × List MemPlace), T ∈ l → tt T = some ti →
    DataW.trod enc P w 0 sp held fuel T cs = some x → Sm x.1 → RepT tt w ti.cells cs := by
  intro fuel
  induction fuel with
  | zero => intro T ti cs x _ _ h; simp [DataW.trod] at h
  | succ fuel ih =>
    intro T ti cs x hTl hti h hsm
    have hloc := List.all_eq_true.1 hl T hTl
    obtain ⟨info, hinfo⟩ := hT T ti hti
    unfold locT at hloc
    rw [hti] at hloc
    obtain ⟨uk, cells, bytes⟩ := ti
    have huk := hinfo.uk
    cases uk with
    | bool =>
      obtain ⟨hu, rfl⟩ := huk
      obtain ⟨b, rfl, rfl⟩ := DataW.trod_bool hu h
      exact ⟨[.bool b], ⟨⟨b, rfl⟩, trivial⟩, rfl, fun i hi => by
        obtain rfl : i = 0 := by simpa using hi
        exact .bool b⟩
    | int k =>
      obtain ⟨hu, rfl⟩ := huk
      obtain ⟨n, rfl, rfl, _⟩ := DataW.trod_int hu h
      exact ⟨[.int k n], ⟨⟨n, rfl⟩, trivial⟩, rfl, fun i hi => by
        obtain rfl : i = 0 := by simpa using hi
        exact .int k n⟩
    | str =>
      obtain ⟨hu, rfl⟩ := huk
      obtain ⟨s, rfl, rfl, _⟩ := DataW.trod_string hu h
      refine ⟨[.str s.data.toList], ⟨⟨_, rfl⟩, trivial⟩, rfl, fun i hi => ?_⟩
      obtain rfl : i = 0 := by simpa using hi
      exact Rep.str _ (hS.str _ hsm)
    | slice e =>
      obtain ⟨hu, rfl⟩ := huk
      simp only [Bool.and_eq_true] at hloc
      obtain ⟨hel, hte⟩ := hloc
      split at hte
      · rename_i te hte'
        simp only [Bool.and_eq_true] at hte
        obtain ⟨hd, hk⟩ := hte
        have hk : 0 < te.cells.length := by simpa [Nat.blt_eq] using hk
        obtain ⟨ie, hie⟩ := hT e te hte'
        have hce : P.cellsOf e = te.cells.length := by rw [Program.cellsOf, hie.inf]; exact hie.size
        rcases DataW.trod_slice hu h with ⟨rfl, rfl⟩ | ⟨a, len, cap, elems, rest, n, hn, rfl, rfl, _, hlc, _, hlen, hel2, _⟩
        · exact ⟨[.list e []], ⟨⟨[], rfl⟩, trivial⟩, rfl, fun i hi => by
            obtain rfl : i = 0 := by simpa using hi
            exact Rep.nil e none 0⟩
        · obtain rfl : fuel = n := by omega
          obtain ⟨hlb, hes⟩ := hS.slice _ _ hsm
          simp only [List.length_map] at hlb
          have one : ∀ i, i < len → ∃ ds, fitsAll te.cells ds ∧ ∀ j, j < te.cells.length → ∃ v, w.cell? (a.add (i * te.cells.length + j)) = some v ∧ Rep tt w (fun b => b < w.heap.size) v (ds.getD j .z) := by
            intro i hi
            have he := hel2 i hi
            rw [List.getElem?_eq_getElem (show i < elems.length by omega), Option.bind_eq_some_iff] at he
            obtain ⟨ci, hci, htr⟩ := he
            rw [hce] at hci
            obtain ⟨hcl, hcc⟩ := cells_at hci
            obtain ⟨ds, hf, _, hr⟩ := ih e te ci _ (hasN_mem hel) hte' htr (hes _ (List.mem_map_of_mem (List.getElem_mem _)))
            refine ⟨ds, hf, fun j hj => ⟨_, ?_, hr j hj⟩⟩
            have := hcc j hj
            rwa [show (a.add (i * te.cells.length)).add j = a.add (i * te.cells.length + j) by
              unfold Addr.add
              by_cases hi : i * te.cells.length = 0 <;> by_cases hj : j = 0 <;> simp [hi, hj, Nat.add_assoc]] at this
          have hadd : ∀ _ : Nat, 0 < len → (a.spot = none ∧ a.block < w.heap.size) := fun _ h0 => by
            obtain ⟨_, _, hj⟩ := one 0 h0
            obtain ⟨v, hv, _⟩ := hj 0 hk
            simp only [Nat.zero_mul, Nat.add_zero] at hv
            have hv : w.cell? a = some v := by simpa [Addr.add] using hv
            unfold World.cell? at hv
            split at hv
            · rename_i c _ _ hb
              split at hv
              · cases hv
              · rename_i hs
                exact ⟨by simpa using hs, (Array.getElem?_eq_some_iff.1 hb).1⟩
            · cases hv
          let F : Nat → List D := fun i => if h : i < len then Classical.choose (one i h) else []
          have hF : ∀ i (h : i < len), fitsAll te.cells (F i) ∧ ∀ j, j < te.cells.length → ∃ v, w.cell? (a.add (i * te.cells.length + j)) = some v ∧ Rep tt w (fun b => b < w.heap.size) v ((F i).getD j .z) := fun i h => by
            simp only [F, dif_pos h]
            exact Classical.choose_spec (one i h)
          have hx : ∀ i, i < len → ((List.range len).map F).getD i [] = F i := fun i hi => by simp [hi]
          refine ⟨[.list e ((List.range len).map F)], ⟨⟨_, rfl⟩, trivial⟩, rfl, fun i hi => ?_⟩
          obtain rfl : i = 0 := by simpa using hi
          show Rep tt w _ (.slice (some a) len cap) (.list e ((List.range len).map F))
          have hrl : ((List.range len).map F).length = len := by simp
          have key : Rep tt w (fun b => b < w.heap.size) (.slice (some a) ((List.range len).map F).length cap) (.list e ((List.range len).map F)) := by
            refine Rep.list e te _ _ cap a.block a.off (fun i j => (w.cell? (a.add (i * te.cells.length + j))).getD Go.undef) hte' hd hk (by rw [hrl]; exact hlc) (by rw [hrl]; omega) (fun i hi => ?_) (fun h0 => ?_) (fun i j hi hj => ?_) (fun i j hi hj => ?_)
            · rw [hrl] at hi; rw [hx i hi]; exact (hF i hi).1
            · rw [hrl] at h0
              obtain ⟨h1, h2⟩ := hadd 0 h0
              exact ⟨by cases a; simp_all, h2⟩
            · rw [hrl] at hi
              obtain ⟨v, hv, _⟩ := (hF i hi).2 j hj
              obtain ⟨h1, _⟩ := hadd 0 (by omega)
              rw [hv, Option.getD_some, ← hv]
              congr 1
              unfold Addr.add
              split
              · rename_i h0; rw [h0]; cases a; simp_all
              · rfl
            · rw [hrl] at hi
              obtain ⟨v, hv, hr⟩ := (hF i hi).2 j hj
              rw [hx i hi, hv]
              exact hr
          rwa [hrl] at key
      · cases hte
    | struct fs =>
      obtain ⟨fields, hu, hfs, _⟩ := huk
      obtain ⟨xs, n, hn, rfl, hcl, hxl, hf⟩ := DataW.trod_struct hu h
      obtain rfl : fuel = n := by omega
      have hcs : P.cellsOf T = cells.length := by rw [Program.cellsOf, hinfo.inf]; exact hinfo.size
      have := repF (w := w) hT (l := l) (cs := cs) fs 0 cells hloc (by omega) fun f hm tu hfl htu => by
        rw [← hfs, List.mem_map] at hm
        obtain ⟨fd, hfd, rfl⟩ := hm
        obtain ⟨i, hi, hif⟩ := List.getElem_of_mem hfd
        have hi' : i < fields.size := by simpa using hi
        have hfi : fields[i]? = some fd := by
          rw [Array.getElem?_eq_getElem hi']
          simpa using hif
        have h2 := hf i fd hfi
        obtain ⟨iu, hiu⟩ := hT fd.type tu htu
        have hcu : P.cellsOf fd.type = tu.cells.length := by rw [Program.cellsOf, hiu.inf]; exact hiu.size
        rw [hcu, List.getElem?_eq_getElem (show i < xs.length by omega)] at h2
        exact ih fd.type tu _ _ hfl htu h2 (hS.agg _ hsm _ (List.mem_map_of_mem (List.getElem_mem _)))
      simpa using this
    | _ => cases hloc
end Go.Proofs.EN
