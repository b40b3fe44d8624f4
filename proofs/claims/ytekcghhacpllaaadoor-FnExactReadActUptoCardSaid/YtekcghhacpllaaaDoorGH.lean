/- Contracts of functions of this program, by the evaluator EN; part GH. No conditions but those that each theorem states. -/
import Derived.Test.YtekcghhacpllaaaDoorGE
import Derived.Test.YtekcghhacpllaaaDoorGG
import Derived.Shelf.SlicesE.DeleteFunc
import Derived.Lib.OwnBridge
set_option linter.unusedVariables false
set_option linter.unusedSimpArgs false
set_option maxRecDepth 100000
set_option maxHeartbeats 8000000
namespace Go.Proofs.SL
open Go Go.Proofs Go.Proofs.EN Go.Proofs.VT Go.Shelf Go.RowKit Go.Lib Go.Sort
variable {T : Tabs}
theorem gives89 (x : ByteArray) (W : World) : FnGives Tryd.prog 89 #[] #[.string x] (.bool x.toList.isEmpty) W := by
  show Calls Tryd.prog 89 #[.string x] W _
  go_enter Tryd.func89, Tryd.ntmps89
  go_wp2
  go_ret
  exact ⟨rfl, 0, rfl⟩
/-- What stands in a variable of the library: how long what is sought may be. -/
def HasMax (T : Tabs) : Prop := ∀ w, T.ok w → ∃ m, w.cell? ⟨0, 0, none⟩ = some (.int .i64 m)
def blank : ByteArray := ⟨#[32]⟩
def parts (s : ByteArray) : List ByteArray := Lib.splitB blank 0 (Lib.countB s blank) s
def kept (s : ByteArray) : List ByteArray := (parts s).filter fun x => !x.toList.isEmpty
theorem parts_len (s : ByteArray) : (parts s).length = Lib.countB s blank + 1 := Lib.splitB_all blank (by decide) 0 _ s rfl
theorem wordsOf_at (s : ByteArray) (hs : s.size ≤ 16777216) (m : Int) (w : World) (hm : w.cell? ⟨0, 0, none⟩ = some (.int .i64 m)) :
    Calls Tryd.prog 47 #[.string s] w fun e w' => e = .returned (.slice (some ⟨w.heap.size, 0, none⟩) (kept s).length (parts s).length) ∧ Below w.heap.size w w' ∧ w.heap.size < w'.heap.size ∧
      ∀ j, j < (kept s).length → w'.cell? ⟨w.heap.size, j, none⟩ = some (.string ((kept s)[j]!)) := by
  have eg : ∀ args w, (callFunc 89 args).run Tryd.prog w = .ok (.enter 89 args) w := enters_of Tryd.func89 (by kernel_rfl) rfl
  have hsp := Tryd.strings_Split s blank m w (by omega) hm (by decide)
  have hcl := Lib.countB_le blank (by decide) s.size s (Nat.le_refl _)
  have hw1 : ∀ (j : Nat), j < (parts s).toArray.size → (w.alloc (.cells ((parts s).map Value.string).toArray 9)).cell? ⟨w.heap.size, 0 + j, none⟩ = some (.string (parts s).toArray[j]!) ∧ (w.alloc (.cells ((parts s).map Value.string).toArray 9)).frozen? ⟨w.heap.size, 0 + j, none⟩ = false := by
    intro j hj
    have hj' : j < (parts s).length := by simpa using hj
    constructor
    · rw [World.cell?_alloc_new]; simp [hj']
    · exact World.frozen?_alloc_new _ _ _ _
  have hdf := Tryd.slices_DeleteFunc Value.string (fun _ => rfl) (fun x => x.toList.isEmpty) 89 #[] eg ByteArray.empty (fun w => Tryd.zeroValue9 w) w.heap.size 0 (parts s).length (parts s).toArray (w.alloc (.cells ((parts s).map Value.string).toArray 9))
    (fun W x _ => gives89 x W) (fun n os dk x _ => gives89 x _) hw1 (by simp [parts_len]; omega) (by simp)
  have e1 : (parts s).toArray.size = Lib.countB s blank + 1 := by simp [parts_len]
  have e2 : (parts s).length = Lib.countB s blank + 1 := parts_len s
  change Calls Tryd.prog 87 _ _ _ at hdf
  rw [e1, e2] at hdf
  generalize hn0 : Lib.countB s blank + 1 = n0 at *
  have ek : (List.filter (fun x => !x.toList.isEmpty) (parts s).toArray.toList) = kept s := by simp [kept]
  rw [ek] at hdf
  rw [e2]
  change Calls Tryd.prog 88 _ _ (fun e w' => e = _ ∧ w' = w.alloc (.cells ((parts s).map Value.string).toArray 9)) at hsp
  have hkn : (kept s).length ≤ n0 := by rw [← e2]; exact List.length_filter_le _ _
  clear hcl
  generalize hW : w.alloc (.cells ((parts s).map Value.string).toArray 9) = W at hdf hsp
  rw [hW] at hw1
  have hB : Below w.heap.size w W := hW ▸ (Below.refl _ _).alloc (Nat.le_refl _) _
  have hsW : w.heap.size < W.heap.size := by rw [← hW]; simp
  generalize kept s = ks at hdf hkn ⊢
  go_enter Tryd.func47, Tryd.ntmps47
  go_wp2_with (first | (go_at_call 88; refine hsp.mono ?_; rintro e w' ⟨rfl, rfl⟩) | (go_at_call 87; refine hdf.mono ?_; rintro e w' ⟨rfl, q, rfl⟩))
  go_ret
  refine ⟨rfl, below_putRow hB (Nat.le_refl _), by simpa using hsW, fun j hj => ?_⟩
  have := cell?_putRow Value.string (Sort.ahead w' q) w.heap.size 0 (parts s).toArray (ks ++ List.replicate (n0 - ks.length) ByteArray.empty).toArray (fun j hj => hw1 j hj) (by rw [e1]; simp; omega) j (by simp; omega)
  rw [Nat.zero_add] at this
  rw [this]
  congr 2
  simp [hj, List.getElem?_append_left]
theorem kept_words (t : Str) : (kept ⟨t.toArray⟩).map (·.data.toList) = words t := by
  have h1 := Lib.splitB_data blank 0 (Lib.countB ⟨t.toArray⟩ blank) ⟨t.toArray⟩
  have h2 : Lib.countB ⟨t.toArray⟩ blank = t.count 32 := by
    show Lib.count _ _ = _
    exact Lib.count_one 32 t
  have h3 : Lib.splitK [32] 0 (t.count 32) t = cutGo 32 [] t := splitK_cut 32 t _ rfl
  rw [words, words_cut, ← h3, ← h2]
  have h4 : Lib.splitK [32] 0 (Lib.countB ⟨t.toArray⟩ blank) t = (parts ⟨t.toArray⟩).map (·.data.toList) := h1.symm
  rw [h4, kept, List.filter_map]
  congr 1
  apply List.filter_congr
  intro x _
  simp only [Function.comp_apply, Lib.toList_data]
  cases x.data.toList <;> simp
theorem w47 {t : Str} {Kr Kp : C → List Ob → R} (hM : HasMax T) (ht : t.length ≤ 16777216) (h : Kr (.d (.list 9 (dStr (words t)))) []) : Wp T Tryd.prog tt 47 [.d (.str t)] [] Kr Kp := by
  refine Wp.ofPure (enters_of Tryd.func47 (by kernel_rfl) rfl) (fun i hi => ?_) rfl (fun w S vs hS hT hl hv => ?_) h
  · match i, hi with
    | 0, _ => rfl
  · match vs, hl with
    | [v0], _ =>
      obtain rfl : v0 = .string ⟨t.toArray⟩ := str_of (hv 0 (by simp))
      obtain ⟨m, hm⟩ := hM w hT
      refine (wordsOf_at ⟨t.toArray⟩ (by simpa [ByteArray.size] using ht) m w hm).mono fun e w' ⟨he, hB, hsz, hc⟩ => ⟨_, he, kept_below hB, .d _ _ ?_⟩
      have hk := kept_words t
      have hl : (kept ⟨t.toArray⟩).length = (words t).length := by rw [← hk]; simp
      have hwl := words_len t
      rw [hl, show (words t).length = (dStr (words t)).length by simp]
      refine .list _ ⟨.str, [.str], 16⟩ _ _ _ w.heap.size 0 (fun i _ => .string ((kept ⟨t.toArray⟩)[i]!)) rfl rfl (by simp) ?_ ?_ (fun i hi => ?_) (fun _ => ⟨rfl, .inr ⟨Nat.le_refl _, hsz⟩⟩) (fun i j hi hj => ?_) (fun i j hi hj => ?_)
      · simp only [dStr_len]; rw [← hl]; exact List.length_filter_le _ _
      · simp only [dStr_len, big]; omega
      · have hi' : i < (words t).length := by simpa using hi
        simp [dStr, hi', fitsAll, CK.fits]
      · obtain rfl : j = 0 := by simpa using hj
        have := hc i (by rw [hl]; simpa using hi)
        simpa using this
      · obtain rfl : j = 0 := by simpa using hj
        have hi' : i < (words t).length := by simpa using hi
        have e : ((dStr (words t)).getD i []).getD 0 .z = .str (words t)[i] := by simp [dStr, hi']
        rw [e]
        have e2 : (words t)[i] = ((kept ⟨t.toArray⟩)[i]!).data.toList := by
          have hi2 : i < (kept ⟨t.toArray⟩).length := by omega
          have e3 : (words t)[i]? = some (((kept ⟨t.toArray⟩)[i]!).data.toList) := by rw [← hk]; simp [hi2]
          rw [List.getElem?_eq_getElem hi'] at e3
          exact Option.some.inj e3
        have h5 := words_mem (List.getElem_mem hi')
        have := Rep.str (tt := tt) (w := w') (S := fun b => S b ∨ (w.heap.size ≤ b ∧ b < w'.heap.size)) (words t)[i] (by simp only [big]; omega)
        rw [e2] at this ⊢
        simpa using this
end Go.Proofs.SL
