/- Contracts of functions of this program, by the evaluator EN; part Ea. No conditions but those that each theorem states. -/
import Derived.Test.YtekcghhacpllaaaGreatDoorEN1
import Derived.Below
import Derived.Laws.AppendOwn
import Derived.Laws.Cells
import Derived.Tactics
import Derived.Laws.Entries
import Derived.Laws.Strings
import Derived.Laws.CopyRow
import Derived.Laws.Append
import Derived.Laws.Tables
import Derived.Laws.StructEq
import Derived.Laws.BytesString
import Derived.Laws.Slices
import Derived.Laws.MakeOwn
/- What the evaluator's values stand for in a world. -/
namespace Go.Proofs.EN
open Go
set_option linter.unusedVariables false

/-! ### The table of types -/
def zeroV : CK → Value
  | .bool => .bool false
  | .int k => .int k 0
  | .str => .string ⟨#[]⟩
  | .list _ => .slice none 0 0
  | .iface => .nilIface
  | .other => .nilIface
def UK.ok (P : Program) (T : TypeId) (cells : List CK) : UK → Prop
  | .bool => P.underlying T = some .bool ∧ cells = [.bool]
  | .int k => P.underlying T = some (.int k) ∧ cells = [.int k]
  | .str => P.underlying T = some .string ∧ cells = [.str]
  | .slice e => P.underlying T = some (.slice e) ∧ cells = [.list e]
  | .struct fs => ∃ fields : Array Field, P.underlying T = some (.struct fields) ∧ fields.toList.map (fun f => (f.offset, f.type)) = fs ∧ ∀ f ∈ fields.toList, (P.info? f.type).isSome = true
  | .ptr e => P.underlying T = some (.pointer e) ∧ cells = [.other]
  | .func => (∃ a b c, P.underlying T = some (.func a b c)) ∧ cells = [.other]
  | .map k v => P.underlying T = some (.map k v) ∧ cells = [.other]
  | .iface => (∃ ms, P.underlying T = some (.interface ms)) ∧ cells = [.iface]
  | .tuple _ => (∃ ts, P.underlying T = some (.tuple ts))
/-- Kinds of cells of a type that is compared cell by cell. -/
def eqFs (f : TypeId → Option (List CK)) : List Field → Nat → Option (List CK)
  | [], _ => some []
  | x :: r, off => bif (x.name != "_") && Nat.beq x.offset off then match f x.type with
    | some ks => match eqFs f r (off + ks.length) with
      | some js => some (ks ++ js)
      | none => none
    | none => none
    else none
def eqKs (P : Program) : Nat → TypeId → Option (List CK)
  | 0, _ => none
  | n + 1, T => match P.underlying T with
    | some .bool => some [.bool]
    | some (.int k) => some [.int k]
    | some .string => some [.str]
    | some (.struct fs) => bif P.stoodInHeld T then none else match eqFs (eqKs P n) fs.toList 0, P.info? T with
      | some ks, some i => bif Nat.beq i.size ks.length then some ks else none
      | _, _ => none
    | _ => none
structure TIok (P : Program) (T : TypeId) (ti : TI) (info : TypeInfo) : Prop where
  inf : P.info? T = some info
  size : info.size = ti.cells.length
  bytes : info.bytes = ti.bytes
  uk : ti.uk.ok P T ti.cells
  zero : ∃ zv, info.zero = some zv ∧ zv.cells.size = ti.cells.length ∧ ∀ i k, ti.cells[i]? = some k → (k ≠ .other → zv.cells.getD i undef = zeroV k) ∧ (zv.cells.getD i undef).oneCell' = true
  zone : ti.uk.isAgg = false → ∀ zv, info.zero = some zv → zv.oneCell' = true
  zagg : ti.uk.isAgg = true → ∃ vs, info.zero = some (.agg vs)
  eqs : ti.uk.isAgg = true → scalKs ti.cells = true → eqKs P 8 T = some ti.cells ∧ P.eqGuardType P.depth T = false
def TTok (P : Program) (tt : TypeId → Option TI) : Prop := ∀ T ti, tt T = some ti → ∃ info, TIok P T ti info

/-! ### Plain data in a world -/
section
variable (tt : TypeId → Option TI)
inductive Rep (w : World) (S : Nat → Prop) : Value → D → Prop
  | bool (b : Bool) : Rep w S (.bool b) (.bool b)
  | int (k : IntKind) (n : Int) : Rep w S (.int k n) (.int k n)
  | str (l : Str) (hb : l.length ≤ big) : Rep w S (.string ⟨l.toArray⟩) (.str l)
  | nilI : Rep w S .nilIface .nilI
  | errN : Rep w S .nilIface (.errv true)
  | errE (t : TypeId) (v : Value) : Rep w S (.iface t v) (.errv false)
  | nil (T : TypeId) (a : Option Addr) (cap : Nat) : Rep w S (.slice a 0 cap) (.list T [])
  | iface (t : TypeId) (v : Value) (d : D) (ti : TI) (k : CK) (ht : tt t = some ti) (hc : ti.cells = [k]) (hk : k.scalar = true) (ha : ti.uk.isAgg = false) (hf : k.fits d) (h : Rep w S v d) : Rep w S (.iface t v) (.iface t d)
  | ifaceS (t : TypeId) (vs : Array Value) (ds : List D) (ti : TI) (ht : tt t = some ti) (hk : scalKs ti.cells = true) (ha : ti.uk.isAgg = true) (hf : fitsAll ti.cells ds) (hl : vs.size = ti.cells.length)
      (h : ∀ i, i < ti.cells.length → Rep w S (vs.getD i Go.undef) (ds.getD i .z)) : Rep w S (.iface t (.agg vs)) (.ifaceS t ds)
  | list (T : TypeId) (ti : TI) (xs : List (List D)) (a : Option Addr) (cap : Nat) (b off : Nat) (vs : Nat → Nat → Value) (ht : tt T = some ti) (hd : dataKs ti.cells = true) (hk : 0 < ti.cells.length) (hcap : xs.length ≤ cap) (hb : xs.length ≤ big)
      (hfit : ∀ i, i < xs.length → fitsAll ti.cells (xs.getD i []))
      (ha : 0 < xs.length → a = some ⟨b, off, none⟩ ∧ S b)
      (hc : ∀ i j, i < xs.length → j < ti.cells.length → w.cell? ⟨b, off + (i * ti.cells.length + j), none⟩ = some (vs i j))
      (hr : ∀ i j, i < xs.length → j < ti.cells.length → Rep w S (vs i j) ((xs.getD i []).getD j .z)) : Rep w S (.slice a xs.length cap) (.list T xs)

def D.isL : D → Bool
  | .list _ _ => true
  | _ => false

/-- Data some of whose lists lie in blocks of their own. -/
inductive RepW (w : World) (S : Nat → Prop) : Md → Value → D → (Nat → Prop) → Prop
  | froz (v : Value) (d : D) (φ : Nat → Prop) (h : Rep tt w S v d) : RepW w S (.lv 0) v d φ
  | sc (md : Md) (v : Value) (d : D) (φ : Nat → Prop) (h : Rep tt w S v d) (hs : d.isL = false) : RepW w S md v d φ
  | zero (md : Md) (T : TypeId) (a : Option Addr) (φ : Nat → Prop) : RepW w S md (.slice a 0 0) (.list T []) φ
  | list (md : Md) (T : TypeId) (ti : TI) (xs : List (List D)) (cap b : Nat) (φ : Nat → Prop) (vs : Array Value) (φs : Nat → Nat → Nat → Prop) (ht : tt T = some ti) (hd : dataKs ti.cells = true) (hk : 0 < ti.cells.length)
      (hcap : xs.length ≤ cap) (hc0 : 0 < cap) (hb : xs.length ≤ big) (hfit : ∀ i, i < xs.length → fitsAll ti.cells (xs.getD i []))
      (hh : w.heap[b]? = some (.cells vs T (0, 0))) (hsz : vs.size = cap * ti.cells.length)
      (hφ : φ b) (hφs : ∀ i j x, i < xs.length → j < ti.cells.length → φs i j x → φ x ∧ x ≠ b)
      (hdj : ∀ i j i' j' x, i < xs.length → j < ti.cells.length → i' < xs.length → j' < ti.cells.length → φs i j x → φs i' j' x → i = i' ∧ j = j')
      (hr : ∀ i j, i < xs.length → j < ti.cells.length → RepW w S md (vs.getD (i * ti.cells.length + j) Go.undef) ((xs.getD i []).getD j .z) (φs i j)) : RepW w S md.up (.slice (some ⟨b, 0, none⟩) xs.length cap) (.list T xs) φ
end

variable {tt : TypeId → Option TI}

theorem cell_same {w w' : World} {a : Addr} (h : w'.heap[a.block]? = w.heap[a.block]?) : w'.cell? a = w.cell? a := World.cell?_of_block h

theorem Rep.mono {w w' : World} {S S' : Nat → Prop} (hS : ∀ b, S b → S' b ∧ w'.heap[b]? = w.heap[b]?) {v : Value} {d : D} (h : Rep tt w S v d) : Rep tt w' S' v d := by
  induction h with
  | bool b => exact .bool b
  | int k n => exact .int k n
  | str l hb => exact .str l hb
  | nilI => exact .nilI
  | errN => exact .errN
  | errE t v => exact .errE t v
  | nil T a cap => exact .nil T a cap
  | iface t v d ti k ht hc hk ha hf _ ih => exact .iface t v d ti k ht hc hk ha hf ih
  | ifaceS t vs ds ti ht hk ha hf hl _ ih => exact .ifaceS t vs ds ti ht hk ha hf hl ih
  | list T ti xs a cap b off vs ht hd hk hcap hb hfit ha hc hr ih =>
    refine .list T ti xs a cap b off vs ht hd hk hcap hb hfit (fun h => ⟨(ha h).1, (hS b (ha h).2).1⟩) (fun i j hi hj => ?_) ih
    rw [cell_same (hS b (ha (by omega)).2).2]
    exact hc i j hi hj

theorem RepW.mono {w w' : World} {S S' : Nat → Prop} {md : Md} {v : Value} {d : D} {φ φ' : Nat → Prop} (hS : ∀ b, S b → S' b ∧ w'.heap[b]? = w.heap[b]?) (hφ : ∀ b, φ b → φ' b ∧ w'.heap[b]? = w.heap[b]?) (h : RepW tt w S md v d φ) : RepW tt w' S' md v d φ' := by
  induction h generalizing φ' with
  | froz v d φ h => exact .froz v d φ' (h.mono hS)
  | sc md v d φ h hs => exact .sc md v d φ' (h.mono hS) hs
  | zero md T a φ => exact .zero md T a φ'
  | list md T ti xs cap b φ vs φs ht hd hk hcap hc0 hb hfit hh hsz hφb hφs hdj hr ih =>
    exact .list md T ti xs cap b φ' vs φs ht hd hk hcap hc0 hb hfit ((hφ b hφb).2.trans hh) hsz (hφ b hφb).1 (fun i j x hi hj hx => ⟨(hφ x (hφs i j x hi hj hx).1).1, (hφs i j x hi hj hx).2⟩) hdj
      (fun i j hi hj => ih i j hi hj fun x hx => ⟨hx, (hφ x (hφs i j x hi hj hx).1).2⟩)

theorem idx_lt {i j m k : Nat} (hi : i < m) (hj : j < k) : i * k + j < m * k := by
  calc i * k + j < i * k + k := by omega
    _ = (i + 1) * k := by rw [Nat.add_mul, Nat.one_mul]
    _ ≤ m * k := Nat.mul_le_mul_right _ (by omega)

/-- What is owned is given up: it is plain data. -/
theorem RepW.frz {w : World} {S S' : Nat → Prop} {md : Md} {v : Value} {d : D} {φ : Nat → Prop} (h : RepW tt w S md v d φ) : (∀ b, S b → S' b) → (∀ b, φ b → S' b) → Rep tt w S' v d := by
  induction h with
  | froz v d φ h => exact fun hS _ => h.mono fun b hb => ⟨hS b hb, rfl⟩
  | sc md v d φ h hs => exact fun hS _ => h.mono fun b hb => ⟨hS b hb, rfl⟩
  | zero md T a φ => exact fun _ _ => .nil T a 0
  | list md T ti xs cap b φ vs φs ht hd hk hcap hc0 hb hfit hh hsz hφb hφs hdj hr ih =>
    intro hS hφ
    refine .list T ti xs _ cap b 0 (fun i j => vs.getD (i * ti.cells.length + j) Go.undef) ht hd hk hcap hb hfit (fun _ => ⟨rfl, hφ b hφb⟩) (fun i j hi hj => ?_) (fun i j hi hj => ih i j hi hj hS fun x hx => hφ x (hφs i j x hi hj hx).1)
    have hlt : i * ti.cells.length + j < vs.size := by rw [hsz]; exact idx_lt (by omega) hj
    rw [Nat.zero_add, cell_of_row w b _ vs T (0, 0) hh]
    simp [Array.getD, hlt]

theorem Rep.one {w : World} {S : Nat → Prop} {v : Value} {d : D} (h : Rep tt w S v d) : v.oneCell' = true := by cases h <;> rfl
theorem Rep.cells {w : World} {S : Nat → Prop} {v : Value} {d : D} (h : Rep tt w S v d) : v.cells = #[v] := by cases h <;> rfl
theorem RepW.one {w : World} {S : Nat → Prop} {md : Md} {v : Value} {d : D} {φ : Nat → Prop} (h : RepW tt w S md v d φ) : v.oneCell' = true := by
  cases h with
  | froz v d φ h => exact h.one
  | sc md v d φ h hs => exact h.one
  | zero => rfl
  | list => rfl

theorem fitsAll_length : ∀ {ks : List CK} {ds : List D}, fitsAll ks ds → ds.length = ks.length
  | [], [], _ => rfl
  | _ :: ks, _ :: ds, h => by simp [fitsAll_length h.2]
theorem fitsAll_at : ∀ {ks : List CK} {ds : List D}, fitsAll ks ds → ∀ (i : Nat) (k : CK), ks[i]? = some k → k.fits (ds.getD i .z)
  | [], [], _, i, k, h => by simp at h
  | k0 :: ks, d :: ds, h, 0, k, hk => by simp at hk; subst hk; exact h.1
  | k0 :: ks, d :: ds, h, i + 1, k, hk => by simpa using fitsAll_at h.2 i k (by simpa using hk)
theorem fitsAll_of : ∀ {ks : List CK} {ds : List D}, ds.length = ks.length → (∀ (i : Nat) (k : CK), ks[i]? = some k → k.fits (ds.getD i .z)) → fitsAll ks ds
  | [], [], _, _ => trivial
  | [], _ :: _, h, _ => by simp at h
  | _ :: _, [], h, _ => by simp at h
  | k :: ks, d :: ds, h, hf => ⟨by simpa using hf 0 k rfl, fitsAll_of (by simpa using h) fun i k' hk => by simpa using hf (i + 1) k' (by simpa using hk)⟩
theorem CK.norm_fits {k : CK} {d : D} (h : k.fits d) : k.norm d = d := by
  cases k with
  | bool => obtain ⟨b, rfl⟩ := h; rfl
  | int k => obtain ⟨n, rfl⟩ := h; rfl
  | str => obtain ⟨s, rfl⟩ := h; rfl
  | list e => obtain ⟨xs, rfl⟩ := h; rfl
  | iface => rfl
  | other => exact h.elim
theorem CK.fits_isL {k : CK} {d : D} (h : k.fits d) : d.isL = k.isL := by
  cases k with
  | bool => obtain ⟨b, rfl⟩ := h; rfl
  | int k => obtain ⟨n, rfl⟩ := h; rfl
  | str => obtain ⟨s, rfl⟩ := h; rfl
  | list e => obtain ⟨xs, rfl⟩ := h; rfl
  | iface => rcases h with rfl | ⟨t, x, rfl⟩ | ⟨t, x, rfl⟩ | ⟨b, rfl⟩ <;> rfl
  | other => exact h.elim

/-! ### The evaluator's values -/
/-- What is known of the objects beside their contents: where they lie; what stands in their cells where lists stand; which blocks are theirs. -/
structure Gh where
  η : List Value
  ν : Nat → Nat → Nat → Value
  φ : Nat → Nat → Prop

/-- A row of that length, in whatever state. -/
def isR3 (os : List Ob) (o : Nat) (T : TypeId) (n : Nat) : Prop :=
  (∃ md ver xs, os[o]? = some (.row T md ver xs) ∧ xs.length = n) ∨ (∃ md ver xs i j, os[o]? = some (.hole T md ver xs i j) ∧ xs.length = n) ∨ ∃ xs, os[o]? = some (.frz T xs) ∧ xs.length = n
/-- A row of one's own in that state. -/
def isRH (os : List Ob) (o : Nat) (T : TypeId) (ver n : Nat) : Prop :=
  (∃ md xs, os[o]? = some (.row T md ver xs) ∧ xs.length = n) ∨ (∃ md xs i j, os[o]? = some (.hole T md ver xs i j) ∧ xs.length = n) ∨
    (∃ K md es, os[o]? = some (.map K T md ver es) ∧ es.length ≤ n) ∨ ∃ K md es i, os[o]? = some (.maph K T md ver es i) ∧ es.length ≤ n
/-- A slice value out of one that stands in a cell. -/
def subV (k : Nat) (h : Value) (lo n : Nat) (v : Value) : Prop :=
  ∃ a m cap, h = .slice a m cap ∧ lo + n ≤ m ∧ v = .slice (if cap = lo then a else a.map (·.add (lo * k))) n (cap - lo)
/-- Later objects. -/
structure Later (g : Gh) (os : List Ob) (g' : Gh) (os' : List Ob) : Prop where
  ext : ∀ (o : Nat) v, g.η[o]? = some v → g'.η[o]? = some v
  dead : ∀ o, o < g.η.length → os[o]? = some .dead → os'[o]? = some .dead
  r3 : ∀ o T n, o < g.η.length → isR3 os' o T n → isR3 os o T n
  rh : ∀ o T ver' n, o < g.η.length → isRH os' o T ver' n → ∃ ver, ver ≤ ver' ∧ isRH os o T ver n ∧ (ver' = ver → g'.ν o = g.ν o)

section
variable (tt)
inductive RepC (w : World) (S : Nat → Prop) (g : Gh) (os : List Ob) : Value → C → Prop
  | undef (v : Value) : RepC w S g os v .undef
  | unw : RepC w S g os Go.undef .unw
  | d (v : Value) (x : D) (h : Rep tt w S v x) : RepC w S g os v (.d x)
  | cap0 (a : Option Addr) : RepC w S g os (.slice a 0 0) .cap0
  | full (a : Option Addr) (T : TypeId) (xs : List (List D)) (n : Nat) (hn : n = xs.length) (h : Rep tt w S (.slice a n n) (.list T xs)) : RepC w S g os (.slice a n n) (.full T xs)
  | row (v : Value) (o : Nat) (ho : o < g.η.length) (h : os[o]? ≠ some .dead → g.η[o]? = some v) (h1 : v.oneCell' = true) : RepC w S g os v (.row o)
  | nst (v : Value) (e : TypeId) (o ver i off : Nat) (ho : o < g.η.length) (h : ∀ T ver' n, isRH os o T ver' n → ver ≤ ver' ∧ (ver' = ver → v = g.ν o i off ∧ i < n ∧ ∃ ti, tt T = some ti ∧ ti.cells[off]? = some (.list e))) (h1 : v.oneCell' = true) : RepC w S g os v (.nst e o ver i off)
  | nsl (v : Value) (e : TypeId) (o ver i off lo n : Nat) (ho : o < g.η.length) (h : ∀ T ver' m, isRH os o T ver' m → ver ≤ ver' ∧ (ver' = ver → (∃ te, tt e = some te ∧ subV te.cells.length (g.ν o i off) lo n v) ∧ i < m ∧ ∃ ti, tt T = some ti ∧ ti.cells[off]? = some (.list e))) (h1 : v.oneCell' = true) : RepC w S g os v (.nsl e o ver i off lo n)
  | ref (o off b : Nat) (h : g.η[o]? = some (.pointer (some ⟨b, 0, none⟩))) : RepC w S g os (.pointer (some ⟨b, off, none⟩)) (.ref o off)
  | lp (ks : List CK) (ds : List D) (off b o2 : Nat) (vs : Nat → Value) (hS : S b) (hf : fitsAll ks ds)
      (hc : ∀ j, j < ks.length → w.cell? ⟨b, o2 + j, none⟩ = some (vs j)) (hr : ∀ j, j < ks.length → Rep tt w S (vs j) (ds.getD j .z)) : RepC w S g os (.pointer (some ⟨b, o2 + off, none⟩)) (.lp ks ds off)
  | rp (o i off b p : Nat) (ho : o < g.η.length) (h : ∀ n T, isR3 os o T n → i < n ∧ ∃ ti o2 m cap, tt T = some ti ∧ g.η[o]? = some (.slice (some ⟨b, o2, none⟩) m cap) ∧ p = o2 + (i * ti.cells.length + off)) : RepC w S g os (.pointer (some ⟨b, p, none⟩)) (.rp o i off)
  | np (e : TypeId) (o ver i off j f b p : Nat) (ho : o < g.η.length) (h : ∀ T ver' n, isRH os o T ver' n → ver ≤ ver' ∧ (ver' = ver → i < n ∧ (∃ ti, tt T = some ti ∧ ti.cells[off]? = some (.list e)) ∧ ∃ te m cap, tt e = some te ∧ g.ν o i off = .slice (some ⟨b, 0, none⟩) m cap ∧ j < m ∧ p = j * te.cells.length + f)) : RepC w S g os (.pointer (some ⟨b, p, none⟩)) (.np e o ver i off j f)
  | func (f : FuncId) (caps : List C) (vs : Array Value) (hl : vs.size = caps.length) (h : ∀ i, i < caps.length → RepC w S g os (vs.getD i Go.undef) (caps.getD i .undef)) : RepC w S g os (.func (.func f) #[] vs) (.func f caps)
  | nilF : RepC w S g os .nilFunc .nilF
  | zed (v : Value) (h : v.oneCell' = true) : RepC w S g os v .zed
  | agg (cs : List C) (vs : Array Value) (hl : vs.size = cs.length) (h : ∀ i, i < cs.length → RepC w S g os (vs.getD i Go.undef) (cs.getD i .undef)) : RepC w S g os (.agg vs) (.agg cs)
  | tuple (cs : List C) (vs : Array Value) (hl : vs.size = cs.length) (h : ∀ i, i < cs.length → RepC w S g os (vs.getD i Go.undef) (cs.getD i .undef)) : RepC w S g os (.tuple vs) (.tuple cs)
  | mp (o b : Nat) (h : g.η[o]? = some (.map (some b))) : RepC w S g os (.map (some b)) (.mp o)
end

theorem RepC.mono {w w' : World} {S S' : Nat → Prop} {g g' : Gh} {os os' : List Ob} (hS : ∀ b, S b → S' b ∧ w'.heap[b]? = w.heap[b]?) (hl : Later g os g' os') {v : Value} {c : C} (h : RepC tt w S g os v c) : RepC tt w' S' g' os' v c := by
  have lt : ∀ {o : Nat}, o < g.η.length → o < g'.η.length := fun {o} ho => by
    have := hl.ext o (g.η[o]'ho) (by simp [ho])
    exact (List.getElem?_eq_some_iff.1 this).1
  induction h with
  | undef v => exact .undef v
  | unw => exact .unw
  | d v x h => exact .d v x (h.mono hS)
  | cap0 a => exact .cap0 a
  | full a T xs n hn h => exact .full a T xs n hn (h.mono hS)
  | row v o ho h h1 => exact .row v o (lt ho) (fun hx => hl.ext o v (h fun hd => hx (hl.dead o ho hd))) h1
  | nst v e o ver i off ho h h1 =>
    refine .nst v e o ver i off (lt ho) (fun T ver' n hx => ?_) h1
    obtain ⟨ver1, h2, h3, h4⟩ := hl.rh o T ver' n ho hx
    obtain ⟨h5, h6⟩ := h T ver1 n h3
    refine ⟨by omega, fun he => ?_⟩
    have h7 : ver1 = ver := by omega
    rw [h4 (by omega)]
    exact h6 h7
  | nsl v e o ver i off lo n ho h h1 =>
    refine .nsl v e o ver i off lo n (lt ho) (fun T ver' m hx => ?_) h1
    obtain ⟨ver1, h2, h3, h4⟩ := hl.rh o T ver' m ho hx
    obtain ⟨h5, h6⟩ := h T ver1 m h3
    refine ⟨by omega, fun he => ?_⟩
    have h7 : ver1 = ver := by omega
    rw [h4 (by omega)]
    exact h6 h7
  | rp o i off b p ho h =>
    refine .rp o i off b p (lt ho) (fun n T hx => ?_)
    obtain ⟨h1, ti, o2, m, cap, h2, h3, h4⟩ := h n T (hl.r3 o T n ho hx)
    exact ⟨h1, ti, o2, m, cap, h2, hl.ext _ _ h3, h4⟩
  | np e o ver i off j f b p ho h =>
    refine .np e o ver i off j f b p (lt ho) (fun T ver' n hx => ?_)
    obtain ⟨ver1, h2, h3, h4⟩ := hl.rh o T ver' n ho hx
    obtain ⟨h5, h6⟩ := h T ver1 n h3
    refine ⟨by omega, fun he => ?_⟩
    have h7 : ver1 = ver := by omega
    rw [h4 (by omega)]
    exact h6 h7
  | ref o off b h => exact .ref o off b (hl.ext _ _ h)
  | lp ks ds off b o2 vs hSb hf hc hr => exact .lp ks ds off b o2 vs (hS b hSb).1 hf (fun j hj => (cell_same (hS b hSb).2).trans (hc j hj)) (fun j hj => (hr j hj).mono hS)
  | func f caps vs hl' _ ih => exact .func f caps vs hl' ih
  | nilF => exact .nilF
  | zed v h => exact .zed v h
  | agg cs vs hl' _ ih => exact .agg cs vs hl' ih
  | tuple cs vs hl' _ ih => exact .tuple cs vs hl' ih
  | mp o b h => exact .mp o b (hl.ext _ _ h)

/-! ### What is owned -/
section
variable (tt)
/-- A row of one's own, but for some cells. -/
def RowX (w : World) (S : Nat → Prop) (sk : Nat → Nat → Prop) (md : Md) (v : Value) (T : TypeId) (xs : List (List D)) (φ : Nat → Prop) (ν : Nat → Nat → Value) : Prop :=
  ∃ a cap ti, v = .slice a xs.length cap ∧ tt T = some ti ∧ dataKs ti.cells = true ∧ 0 < ti.cells.length ∧ (∀ i, i < xs.length → fitsAll ti.cells (xs.getD i [])) ∧ xs.length ≤ cap ∧ xs.length ≤ big ∧
    (0 < cap → ∃ (b : Nat) (vs : Array Value) (φs : Nat → Nat → Nat → Prop), a = some ⟨b, 0, none⟩ ∧ w.heap[b]? = some (.cells vs T (0, 0)) ∧ vs.size = cap * ti.cells.length ∧ φ b ∧
      (∀ i j x, i < xs.length → j < ti.cells.length → ¬ sk i j → φs i j x → φ x ∧ x ≠ b) ∧
      (∀ i j i' j' x, i < xs.length → j < ti.cells.length → i' < xs.length → j' < ti.cells.length → ¬ sk i j → ¬ sk i' j' → φs i j x → φs i' j' x → i = i' ∧ j = j') ∧
      (∀ i j, i < xs.length → j < ti.cells.length → ¬ sk i j → RepW tt w S md (vs.getD (i * ti.cells.length + j) Go.undef) ((xs.getD i []).getD j .z) (φs i j)) ∧
      ∀ i j e, i < xs.length → ti.cells[j]? = some (.list e) → vs.getD (i * ti.cells.length + j) Go.undef = ν i j ∧ (ν i j).oneCell' = true)
/-- A map, but for some entries. -/
def MapX (w : World) (S : Nat → Prop) (sk : Nat → Prop) (md : Md) (v : Value) (K V : TypeId) (es : List (D × D)) (φ : Nat → Prop) (ν : Nat → Nat → Value) : Prop :=
  ∃ (b : Nat) (ents : Array MapEntry) (clock : Nat) (ck cv : CK) (φs : Nat → Nat → Prop), v = .map (some b) ∧ w.heap[b]? = some (.map ents clock) ∧ mapOK tt K V = some (ck, cv) ∧ φ b ∧ ents.size = es.length ∧
    (∀ i x, i < es.length → ¬ sk i → φs i x → φ x ∧ x ≠ b) ∧
    (∀ i i' x, i < es.length → i' < es.length → ¬ sk i → ¬ sk i' → φs i x → φs i' x → i = i') ∧
    ∀ i e, es[i]? = some e → ∃ m, ents[i]? = some m ∧ ck.fits e.1 ∧ cv.fits e.2 ∧ Rep tt w S m.key e.1 ∧ (¬ sk i → RepW tt w S md m.val e.2 (φs i)) ∧ ν i 0 = m.val ∧ m.val.oneCell' = true
def RepO (w : World) (S : Nat → Prop) (g : Gh) (os : List Ob) (o : Nat) : Ob → Value → Prop
  | .box cs, v => ∃ b vs T, v = .pointer (some ⟨b, 0, none⟩) ∧ w.heap[b]? = some (.cells vs T (0, 0)) ∧ vs.size = cs.length ∧ (∀ i, i < cs.length → RepC tt w S g os (vs.getD i Go.undef) (cs.getD i .undef)) ∧ (∀ i, i < cs.length → (vs.getD i Go.undef).oneCell' = true) ∧ g.φ o b
  | .row T md _ xs, v => RowX tt w S (fun _ _ => False) md v T xs (g.φ o) (g.ν o)
  | .hole T md _ xs i0 j0, v => RowX tt w S (fun i j => i = i0 ∧ j = j0) md v T xs (g.φ o) (g.ν o)
  | .frz T xs, v => Rep tt w S v (.list T xs)
  | .map K V md _ es, v => MapX tt w S (fun _ => False) md v K V es (g.φ o) (g.ν o)
  | .maph K V md _ es i, v => MapX tt w S (fun k => k = i) md v K V es (g.φ o) (g.ν o)
  | .dead, _ => True
end

/-- What stands in the package's own variables. -/
structure Tabs where
  gs : Nat → Prop
  ok : World → Prop
  same : ∀ w w' : World, (∀ b, gs b → w'.heap[b]? = w.heap[b]?) → ok w → ok w'
/-- How a call began. -/
structure Ctx where
  T : Tabs
  S0 : Nat → Prop
  X : Nat → Prop
  w0 : World
  /-- The calls that the function has deferred. -/
  ds : List Deferred := []
/-- The blocks of the first so many objects. -/
def Tracked (g : Gh) (n b : Nat) : Prop := ∃ o, o < n ∧ g.φ o b
def Now (c : Ctx) (w : World) (g : Gh) (n : Nat) (b : Nat) : Prop :=
  c.S0 b ∨ ((c.w0.heap.size ≤ b ∨ c.X b) ∧ b < w.heap.size ∧ ¬ Tracked g n b)
structure Kept (X : Nat → Prop) (w0 w : World) : Prop where
  os : w.os = w0.os
  tape : w.tape = w0.tape
  output : w.output = w0.output
  size : w0.heap.size ≤ w.heap.size
  block : ∀ b, b < w0.heap.size → ¬ X b → w.heap[b]? = w0.heap[b]?
theorem Kept.refl (X : Nat → Prop) (w : World) : Kept X w w := ⟨rfl, rfl, rfl, Nat.le_refl _, fun _ _ _ => rfl⟩
structure Inv (tt : TypeId → Option TI) (c : Ctx) (w : World) (g : Gh) (os : List Ob) : Prop where
  len : g.η.length = os.length
  ob : ∀ (o : Nat) ob v, os[o]? = some ob → g.η[o]? = some v → RepO tt w (Now c w g os.length) g os o ob v
  dj : ∀ (o o' : Nat) b, o < os.length → o' < os.length → g.φ o b → g.φ o' b → o = o'
  own : ∀ o b, o < os.length → g.φ o b → (c.w0.heap.size ≤ b ∨ c.X b) ∧ b < w.heap.size
  kept : Kept c.X c.w0 w
  s0 : ∀ b, c.S0 b → b < c.w0.heap.size ∧ ¬ c.X b
  tab : c.T.ok c.w0 ∧ ∀ b, c.T.gs b → c.S0 b

theorem Inv.withDs {tt : TypeId → Option TI} {c : Ctx} {w : World} {g : Gh} {os : List Ob} (h : Inv tt c w g os) (ds : List Deferred) : Inv tt { c with ds := ds } w g os :=
  ⟨h.len, h.ob, h.dj, h.own, h.kept, h.s0, h.tab⟩
end Go.Proofs.EN
/- One operation: what the evaluator says is what the machine does. -/
namespace Go.Proofs.EN
open Go
set_option linter.unusedVariables false
set_option linter.unusedSimpArgs false
variable {tt : TypeId → Option TI} {P : Program} {c : Ctx} {w : World} {g : Gh} {os : List Ob} {S : Nat → Prop}

structure RepSt (tt : TypeId → Option TI) (c : Ctx) (w : World) (g : Gh) (nt : Nat) (a : Act) (s : St) : Prop where
  inv : Inv tt c w g s.objs
  dfr : a.defers = c.ds
  len : a.tmps.size = nt
  tmp : ∀ t, RepC tt w (Now c w g s.objs.length) g s.objs (a.tmps.getD t Go.undef) (look t s.tmps)

theorem blt_lt {a b : Nat} (h : Nat.blt a b = true) : a < b := by rwa [Nat.blt_eq] at h
theorem lt_blt {a b : Nat} (h : a < b) : Nat.blt a b = true := by rwa [Nat.blt_eq]
theorem ba_eta (b : ByteArray) : (⟨b.data.toList.toArray⟩ : ByteArray) = b := by cases b; simp

theorem rep_ofV (v : Value) : RepC tt w S g os v (ofV v) := by
  unfold ofV
  split
  · exact .d _ _ (.bool _)
  · exact .d _ _ (.int _ _)
  · rename_i s
    cases hb : Nat.ble s.data.toList.length 65536 with
    | false => exact .undef _
    | true =>
      have hb' : s.data.toList.length ≤ 65536 := Nat.le_of_ble_eq_true hb
      have := Rep.str (tt := tt) (w := w) (S := S) s.data.toList (by unfold big; omega)
      rw [ba_eta] at this
      exact .d _ _ this
  · exact .cap0 none
  · exact .d _ _ .nilI
  · exact .nilF
  · exact .undef _

theorem RepSt.ev {nt : Nat} {a : Act} {s : St} (h : RepSt tt c w g nt a s) (x : Operand) : RepC tt w (Now c w g s.objs.length) g s.objs (a.eval x) (s.ev x) := by
  cases x with
  | tmp t => exact h.tmp t
  | const v => exact rep_ofV v
  | global _ => exact .undef _
  | func f => exact .func f [] #[] rfl (fun i hi => by simp at hi)

theorem RepSt.put {nt : Nat} {a : Act} {s : St} (h : RepSt tt c w g nt a s) (dst : Option Tmp) {v : Value} {x : C} (hx : RepC tt w (Now c w g s.objs.length) g s.objs v x) : RepSt tt c w g nt (a.put dst v) (s.put nt dst x) := by
  cases dst with
  | none => exact h
  | some t =>
    simp only [Act.put, St.put]
    cases ht : Nat.blt t nt with
    | false =>
      have : ¬ t < nt := fun h => by rw [lt_blt h] at ht; cases ht
      refine ⟨h.inv, h.dfr, by simpa using h.len, fun i => ?_⟩
      rw [Array.setIfInBounds_eq_of_size_le (by rw [h.len]; exact Nat.le_of_not_lt this)]
      exact h.tmp i
    | true =>
      have ht' : t < nt := blt_lt ht
      refine ⟨h.inv, h.dfr, by simpa using h.len, fun i => ?_⟩
      simp only [cond_true, look_cons]
      cases hti : Nat.beq t i with
      | true =>
        have := Nat.eq_of_beq_eq_true hti
        subst this
        have h1 : t < a.tmps.size := by rw [h.len]; exact ht'
        simp [Array.getD, h1]
        exact hx
      | false =>
        have hne : t ≠ i := fun e => by rw [e, show Nat.beq i i = true from Nat.beq_refl i] at hti; cases hti
        simp only [cond_false, Array.getD_eq_getD_getElem?, Array.getElem?_setIfInBounds_ne hne]
        have := h.tmp i
        simpa [Array.getD_eq_getD_getElem?] using this

/-! ### What is written out -/
theorem sqNat_eq {A : Type} : ∀ (n : Nat) (K : Nat → A), sqNat n K = K n
  | 0, _ => rfl
  | n + 1, K => by
    show sqNat n (fun n => K (n + 1)) = _
    rw [sqNat_eq n]
theorem C.sq0_eq {A : Type} (c : C) (K : C → A) : c.sq0 K = K c := by cases c <;> first | rfl | exact sqNat_eq _ _
theorem sqL0_eq {A : Type} : ∀ (cs : List C) (K : List C → A), sqL0 cs K = K cs
  | [], _ => rfl
  | c :: r, K => by
    show c.sq0 (fun c => sqL0 r fun r => K (c :: r)) = _
    rw [C.sq0_eq, sqL0_eq]
theorem C.sq1_eq {A : Type} (c : C) (K : C → A) : c.sq1 K = K c := by cases c <;> first | rfl | exact sqL0_eq _ _ | exact sqNat_eq _ _
theorem sqL1_eq {A : Type} : ∀ (cs : List C) (K : List C → A), sqL1 cs K = K cs
  | [], _ => rfl
  | c :: r, K => by
    show c.sq1 (fun c => sqL1 r fun r => K (c :: r)) = _
    rw [C.sq1_eq, sqL1_eq]
theorem C.sq_eq {A : Type} (c : C) (K : C → A) : c.sq K = K c := by cases c <;> first | rfl | exact sqL1_eq _ _ | exact sqNat_eq _ _
theorem sqL_eq {A : Type} : ∀ (cs : List C) (K : List C → A), sqL cs K = K cs
  | [], _ => rfl
  | c :: r, K => by
    show c.sq (fun c => sqL r fun r => K (c :: r)) = _
    rw [C.sq_eq, sqL_eq]
theorem Md.sq_eq {A : Type} (m : Md) (K : Md → A) : m.sq K = K m := by cases m <;> rfl
theorem Ob.sq_eq {A : Type} (o : Ob) (K : Ob → A) : o.sq K = K o := by
  cases o <;> simp [Ob.sq, sqL_eq, Md.sq_eq]
theorem sqO_eq {A : Type} : ∀ (os : List Ob) (K : List Ob → A), sqO os K = K os
  | [], _ => rfl
  | o :: r, K => by
    show o.sq (fun o => sqO r fun r => K (o :: r)) = _
    rw [Ob.sq_eq, sqO_eq]
theorem sqT_eq {A : Type} : ∀ (ts : List (Nat × C)) (K : List (Nat × C) → A), sqT ts K = K ts
  | [], _ => rfl
  | (t, c) :: r, K => by
    show c.sq (fun c => sqT r fun r => K ((t, c) :: r)) = _
    rw [C.sq_eq, sqT_eq]
theorem St.sq_eq {A : Type} (s : St) (K : St → A) : s.sq K = K s := by
  cases s; simp [St.sq, sqT_eq, sqO_eq]
theorem putK_eq {A : Type} (nt : Nat) (s : St) (dst : Option Tmp) (c : C) (K : St → A) : s.putK nt dst c K = K (s.put nt dst c) := by
  cases s
  cases dst with
  | none => simp [St.putK, St.put, sqO_eq]
  | some t =>
    simp only [St.putK, St.put]
    cases Nat.blt t nt <;> simp [sqO_eq, C.sq_eq]
theorem sqN_eq {A : Type} : ∀ (ns : List Nat) (K : List Nat → A), sqN ns K = K ns
  | [], _ => rfl
  | n :: r, K => by
    show sqNat n (fun n => sqN r (fun r => K (n :: r))) = _
    rw [sqNat_eq, sqN_eq]
theorem bsel_cases {b : Bool} {x y : R} (h : bsel b x y) : (b = true ∧ x) ∨ (b = false ∧ y) := by
  cases b
  · exact .inr ⟨rfl, h⟩
  · exact .inl ⟨rfl, h⟩
theorem bsel_intro {b : Bool} {x y : R} (h1 : b = true → x) (h2 : b = false → y) : bsel b x y := by
  cases b
  · exact h2 rfl
  · exact h1 rfl
theorem ikBeq_eq : ∀ {a b : IntKind}, ikBeq a b = true → a = b := by
  intro a b h; cases a <;> cases b <;> first | rfl | cases h

/-! ### Inversions -/
theorem RepC.d_inv {v : Value} {x : D} (h : RepC tt w S g os v (.d x)) : Rep tt w S v x := by cases h; assumption
theorem Rep.int_inv {v : Value} {k : IntKind} {n : Int} (h : Rep tt w S v (.int k n)) : v = .int k n := by cases h; rfl
theorem Rep.bool_inv {v : Value} {b : Bool} (h : Rep tt w S v (.bool b)) : v = .bool b := by cases h; rfl
theorem Rep.str_inv {v : Value} {l : Str} (h : Rep tt w S v (.str l)) : v = .string ⟨l.toArray⟩ := by cases h; rfl
theorem Rep.str_le {v : Value} {l : Str} (h : Rep tt w S v (.str l)) : l.length ≤ big := by cases h; assumption
theorem Rep.list_le {v : Value} {T : TypeId} {xs : List (List D)} (h : Rep tt w S v (.list T xs)) : xs.length ≤ big := by
  cases h with
  | nil => simp
  | list => assumption
theorem RepC.int_inv {v : Value} {k : IntKind} {n : Int} (h : RepC tt w S g os v (.d (.int k n))) : v = .int k n := h.d_inv.int_inv
theorem RepC.bool_inv {v : Value} {b : Bool} (h : RepC tt w S g os v (.d (.bool b))) : v = .bool b := h.d_inv.bool_inv
theorem RepC.str_inv {v : Value} {l : Str} (h : RepC tt w S g os v (.d (.str l))) : v = .string ⟨l.toArray⟩ := h.d_inv.str_inv

theorem rep_int (k : IntKind) (n : Int) : RepC tt w S g os (.int k n) (.d (.int k n)) := .d _ _ (.int _ _)
theorem rep_bool (b : Bool) : RepC tt w S g os (.bool b) (.d (.bool b)) := .d _ _ (.bool _)
theorem rep_str (l : Str) (h : l.length ≤ big) : RepC tt w S g os (.string ⟨l.toArray⟩) (.d (.str l)) := .d _ _ (.str _ h)

theorem ba_append (a b : Str) : (⟨a.toArray⟩ : ByteArray) ++ ⟨b.toArray⟩ = ⟨(a ++ b).toArray⟩ := by
  apply ByteArray.ext
  simp [ByteArray.data_append]
theorem ba_size (a : Str) : (⟨a.toArray⟩ : ByteArray).size = a.length := by simp [ByteArray.size]
theorem strLt_eq : ∀ a b : Str, strLt a b = Op.bytesLess a b
  | _, [] => by simp [strLt, Op.bytesLess]
  | [], _ :: _ => by simp [strLt, Op.bytesLess]
  | a :: x, b :: y => by simp [strLt, Op.bytesLess, strLt_eq x y]

/-! ### Structs compared -/
theorem bif_some2 {α : Type} {b : Bool} {x : Option α} {fin : α} (h : (bif b then x else none) = some fin) : b = true ∧ x = some fin := by
  cases b
  · cases h
  · exact ⟨rfl, h⟩
theorem bif_some3 {b : Bool} {x : R} (h : (bif b then x else False)) : b = true ∧ x := by
  cases b
  · exact h.elim
  · exact ⟨rfl, h⟩
def eqV : Value → Value → Bool
  | .bool a, .bool b => a == b
  | .int _ a, .int _ b => a == b
  | .string a, .string b => a.toList == b.toList
  | _, _ => false
def kindV : CK → Value → Bool
  | .bool, .bool _ => true
  | .int k, .int j _ => decide (j = k)
  | .str, .string _ => true
  | _, _ => false
def eqRun (xs ys : Array Value) (off n : Nat) : Bool := (List.range n).all fun i => eqV (xs.getD (off + i) Go.undef) (ys.getD (off + i) Go.undef)
theorem eqRun_add (xs ys : Array Value) (off a b : Nat) : eqRun xs ys off (a + b) = (eqRun xs ys off a && eqRun xs ys (off + a) b) := by
  simp only [eqRun, List.range_add, List.all_append, List.all_map, Function.comp_def, Nat.add_assoc]
theorem eqRun_congr {xs ys xs' ys' : Array Value} {off off' n : Nat} (h : ∀ i, i < n → xs'.getD (off' + i) Go.undef = xs.getD (off + i) Go.undef ∧ ys'.getD (off' + i) Go.undef = ys.getD (off + i) Go.undef) : eqRun xs' ys' off' n = eqRun xs ys off n := by
  unfold eqRun
  refine Bool.eq_iff_iff.2 ?_
  simp only [List.all_eq_true, List.mem_range]
  exact ⟨fun g i hi => by rw [← (h i hi).1, ← (h i hi).2]; exact g i hi, fun g i hi => by rw [(h i hi).1, (h i hi).2]; exact g i hi⟩
def Kinds (ks : List CK) (xs : Array Value) (off : Nat) : Prop := off + ks.length ≤ xs.size ∧ ∀ i k, ks[i]? = some k → kindV k (xs.getD (off + i) Go.undef) = true
theorem Kinds.append {ks js : List CK} {xs : Array Value} {off : Nat} (h : Kinds (ks ++ js) xs off) : Kinds ks xs off ∧ Kinds js xs (off + ks.length) := by
  obtain ⟨h1, h2⟩ := h
  rw [List.length_append] at h1
  refine ⟨⟨by omega, fun i k hk => h2 i k ?_⟩, ⟨by omega, fun i k hk => ?_⟩⟩
  · rw [List.getElem?_append_left (List.getElem?_eq_some_iff.1 hk).1]; exact hk
  · rw [Nat.add_assoc]
    refine h2 (ks.length + i) k ?_
    rw [List.getElem?_append_right (by omega), Nat.add_sub_cancel_left]; exact hk
theorem extract_getD {xs : Array Value} {off s i : Nat} (h : off + s ≤ xs.size) (hi : i < s) : (xs.extract off (off + s)).getD i Go.undef = xs.getD (off + i) Go.undef := by
  simp only [Array.getD_eq_getD_getElem?, Array.getElem?_extract]
  rw [if_pos (by omega)]
theorem Kinds.extract {ks : List CK} {xs : Array Value} {off : Nat} (h : Kinds ks xs off) : Kinds ks (xs.extract off (off + ks.length)) 0 := by
  refine ⟨by simp [Array.size_extract]; have := h.1; omega, fun i k hk => ?_⟩
  have := (List.getElem?_eq_some_iff.1 hk).1
  rw [Nat.zero_add, extract_getD h.1 this]
  exact h.2 i k hk
def eqPart (P : Program) (n : Nat) (T : TypeId) (ks : List CK) : Prop := ∀ (d : Nat) (w : World) (xs ys : Array Value) (off : Nat), n ≤ d → Kinds ks xs off → Kinds ks ys off →
  ∃ a b, (part T xs off).run P w = .ok a w ∧ (part T ys off).run P w = .ok b w ∧ (Op.equalIn d T a b).run P w = .ok (eqRun xs ys off ks.length) w
theorem eqFs_sound {P : Program} {n : Nat} {f : TypeId → Option (List CK)} (hf : ∀ T ks, f T = some ks → eqPart P n T ks) : ∀ {fs : List Field} {off : Nat} {ks : List CK}, eqFs f fs off = some ks →
    ∀ {d : Nat} {w : World} {xs ys : Array Value}, n ≤ d → Kinds ks xs off → Kinds ks ys off → (Op.eqFields d xs ys fs).run P w = .ok (eqRun xs ys off ks.length) w
  | [], off, ks, h, d, w, xs, ys, hd, hx, hy => by
    simp only [eqFs, Option.some.injEq] at h
    subst h
    simp [Op.eqFields, eqRun]
  | x :: r, off, ks, h, d, w, xs, ys, hd, hx, hy => by
    simp only [eqFs] at h
    cases hc : (x.name != "_") && Nat.beq x.offset off with
    | false => rw [hc] at h; cases h
    | true =>
      rw [hc] at h
      simp only [cond_true] at h
      simp only [Bool.and_eq_true, bne_iff_ne, ne_eq] at hc
      have ho := Nat.eq_of_beq_eq_true hc.2
      split at h
      · rename_i k1 h1
        split at h
        · rename_i k2 h2
          cases h
          obtain ⟨hx1, hx2⟩ := hx.append
          obtain ⟨hy1, hy2⟩ := hy.append
          obtain ⟨a, b, e1, e2, e3⟩ := hf _ _ h1 d w xs ys off hd hx1 hy1
          have ih := eqFs_sound hf h2 (w := w) hd hx2 hy2
          rw [List.length_append, eqRun_add]
          simp only [Op.eqFields, ne_eq, hc.1, not_false_eq_true, if_true, ho, Sem.run_bind, e1, e2, e3, Result.andThen_ok, Sem.run_ite]
          cases he : eqRun xs ys off k1.length with
          | true => simp [ih]
          | false => simp
        · cases h
      · cases h
theorem eqKs_struct {P : Program} {n : Nat} (hf : ∀ T ks, eqKs P n T = some ks → eqPart P n T ks) {T : TypeId} {fs : Array Field} {ks : List CK} (hu : P.underlying T = some (.struct fs)) (h : eqKs P (n + 1) T = some ks) {d : Nat} {w : World} {xs ys : Array Value} (hd : n + 1 ≤ d)
    (hx : Kinds ks xs 0) (hy : Kinds ks ys 0) : (Op.equalIn d T (.agg xs) (.agg ys)).run P w = .ok (eqRun xs ys 0 ks.length) w := by
  obtain ⟨d, rfl⟩ : ∃ e, d = e + 1 := ⟨d - 1, by omega⟩
  simp only [eqKs, hu] at h
  cases hs : P.stoodInHeld T with
  | true => rw [hs] at h; cases h
  | false =>
    rw [hs] at h
    simp only [cond_false] at h
    split at h
    · rename_i k1 i h1 h2
      obtain ⟨_, h3⟩ := bif_some2 h
      cases h3
      have hfo : P.fieldsOf T = fs := by simp [Program.fieldsOf, hu]
      rw [run_equalIn_struct w d T xs ys (by rw [hfo]; exact hu) hs, hfo]
      exact eqFs_sound hf h1 (by omega) hx hy
    · cases h
theorem eqKs_sound (P : Program) : ∀ (n : Nat) (T : TypeId) (ks : List CK), eqKs P n T = some ks → eqPart P n T ks
  | 0, T, ks, h => by cases h
  | n + 1, T, ks, h => by
    intro d w xs ys off hd hx hy
    have h0 := h
    simp only [eqKs] at h
    have one : ∀ {k : CK} (zs : Array Value), Kinds [k] zs off → zs[off]? = some (zs.getD off Go.undef) ∧ kindV k (zs.getD off Go.undef) = true := fun {k} zs hz => by
      have h1 := hz.1
      simp only [List.length_cons, List.length_nil] at h1
      exact ⟨by simp [Array.getD_eq_getD_getElem?, Array.getElem?_eq_getElem (show off < zs.size by omega)], by simpa using hz.2 0 k rfl⟩
    obtain ⟨d, rfl⟩ : ∃ e, d = e + 1 := ⟨d - 1, by omega⟩
    split at h
    · rename_i hu
      cases h
      obtain ⟨x1, x2⟩ := one xs hx
      obtain ⟨y1, y2⟩ := one ys hy
      generalize xs.getD off Go.undef = a at x1 x2
      generalize ys.getD off Go.undef = b at y1 y2
      refine ⟨a, b, by simp [part, isAgg, run_underlying hu, x1], by simp [part, isAgg, run_underlying hu, y1], ?_⟩
      cases a <;> simp [kindV] at x2
      cases b <;> simp [kindV] at y2
      rename_i a b
      rw [run_equalIn_bool w d T a b hu]
      simp [eqRun, List.range_succ, Array.getD_eq_getD_getElem?, x1, y1, eqV]
    · rename_i q hu
      cases h
      obtain ⟨x1, x2⟩ := one xs hx
      obtain ⟨y1, y2⟩ := one ys hy
      generalize xs.getD off Go.undef = a at x1 x2
      generalize ys.getD off Go.undef = b at y1 y2
      refine ⟨a, b, by simp [part, isAgg, run_underlying hu, x1], by simp [part, isAgg, run_underlying hu, y1], ?_⟩
      cases a <;> simp [kindV] at x2
      cases b <;> simp [kindV] at y2
      subst x2 y2
      rw [run_equalIn_int w d T _ _ _ _ hu]
      simp [eqRun, List.range_succ, Array.getD_eq_getD_getElem?, x1, y1, eqV]
    · rename_i hu
      cases h
      obtain ⟨x1, x2⟩ := one xs hx
      obtain ⟨y1, y2⟩ := one ys hy
      generalize xs.getD off Go.undef = a at x1 x2
      generalize ys.getD off Go.undef = b at y1 y2
      refine ⟨a, b, by simp [part, isAgg, run_underlying hu, x1], by simp [part, isAgg, run_underlying hu, y1], ?_⟩
      cases a <;> simp [kindV] at x2
      cases b <;> simp [kindV] at y2
      rw [run_equalIn_string w d T _ _ hu]
      simp [eqRun, List.range_succ, Array.getD_eq_getD_getElem?, x1, y1, eqV]
    · rename_i fs hu
      have hsz : ∃ i, P.info? T = some i ∧ i.size = ks.length := by
        cases hs : P.stoodInHeld T with
        | true => rw [hs] at h; cases h
        | false =>
          rw [hs] at h
          simp only [cond_false] at h
          split at h
          · rename_i k1 i h1 h2
            obtain ⟨h4, h3⟩ := bif_some2 h
            cases h3
            exact ⟨i, h2, Nat.eq_of_beq_eq_true h4⟩
          · cases h
      obtain ⟨i, hi, hs⟩ := hsz
      have hp : ∀ zs : Array Value, (part T zs off).run P w = .ok (.agg (zs.extract off (off + ks.length))) w := fun zs => by
        simp [part, isAgg, run_underlying hu, sizeOf, typeInfo, hi, hs]
      refine ⟨_, _, hp xs, hp ys, ?_⟩
      rw [eqKs_struct (eqKs_sound P n) hu h0 hd hx.extract hy.extract]
      congr 1
      exact eqRun_congr fun i hi => ⟨by rw [Nat.zero_add, extract_getD hx.1 hi], by rw [Nat.zero_add, extract_getD hy.1 hi]⟩
    · cases h
theorem eqCs_sound {w : World} {S : Nat → Prop} {g : Gh} {os : List Ob} : ∀ {ks : List CK} {xs ys : List C} {b : Bool}, eqCs ks xs ys = some b → ∀ (vs us : List Value), vs.length = xs.length → us.length = ys.length →
    (∀ i, i < xs.length → RepC tt w S g os (vs.getD i Go.undef) (xs.getD i .undef)) → (∀ i, i < ys.length → RepC tt w S g os (us.getD i Go.undef) (ys.getD i .undef)) →
    xs.length = ks.length ∧ ys.length = ks.length ∧ (∀ i k, ks[i]? = some k → kindV k (vs.getD i Go.undef) = true ∧ kindV k (us.getD i Go.undef) = true) ∧ ((List.range ks.length).all fun i => eqV (vs.getD i Go.undef) (us.getD i Go.undef)) = b
  | [], [], [], b, h, vs, us, hv, hu, hx, hy => by
    cases h
    exact ⟨rfl, rfl, fun i k hk => by simp at hk, rfl⟩
  | .bool :: ks, .d (.bool a) :: xs, .d (.bool b) :: ys, r, h, vs, us, hv, hu, hx, hy => by
    simp only [eqCs] at h
    split at h
    · rename_i r1 h1
      cases h
      match vs, us, hv, hu with
      | v :: vs, u :: us, hv, hu =>
      obtain ⟨e1, e2, e3, e4⟩ := eqCs_sound h1 vs us (by simpa using hv) (by simpa using hu) (fun i hi => by simpa using hx (i + 1) (by simpa using hi)) (fun i hi => by simpa using hy (i + 1) (by simpa using hi))
      have hx0 := hx 0 (by simp)
      have hy0 := hy 0 (by simp)
      simp only [List.getD_cons_zero] at hx0 hy0
      obtain rfl := hx0.bool_inv
      obtain rfl := hy0.bool_inv
      refine ⟨by simp [e1], by simp [e2], fun i k hk => ?_, ?_⟩
      · cases i with
        | zero => simp at hk; subst hk; exact ⟨rfl, rfl⟩
        | succ i => simpa using e3 i k (by simpa using hk)
      · rw [List.length_cons, List.range_succ_eq_map, List.all_cons, List.all_map]
        simp only [List.getD_cons_zero, Function.comp_def, List.getD_cons_succ, Nat.succ_eq_add_one]
        exact congrArg (fun z => (a == b) && z) e4
    · cases h
  | .int q :: ks, .d (.int k1 a) :: xs, .d (.int k2 b) :: ys, r, h, vs, us, hv, hu, hx, hy => by
    simp only [eqCs] at h
    cases hk : ikBeq k1 q && ikBeq k2 q with
    | false => rw [hk] at h; cases h
    | true =>
      rw [hk] at h
      simp only [cond_true] at h
      simp only [Bool.and_eq_true] at hk
      obtain rfl := ikBeq_eq hk.1
      obtain rfl := ikBeq_eq hk.2
      split at h
      · rename_i r1 h1
        cases h
        match vs, us, hv, hu with
        | v :: vs, u :: us, hv, hu =>
        obtain ⟨e1, e2, e3, e4⟩ := eqCs_sound h1 vs us (by simpa using hv) (by simpa using hu) (fun i hi => by simpa using hx (i + 1) (by simpa using hi)) (fun i hi => by simpa using hy (i + 1) (by simpa using hi))
        have hx0 := hx 0 (by simp)
        have hy0 := hy 0 (by simp)
        simp only [List.getD_cons_zero] at hx0 hy0
        obtain rfl := hx0.int_inv
        obtain rfl := hy0.int_inv
        refine ⟨by simp [e1], by simp [e2], fun i k hk => ?_, ?_⟩
        · cases i with
          | zero => simp at hk; subst hk; simp [kindV]
          | succ i => simpa using e3 i k (by simpa using hk)
        · rw [List.length_cons, List.range_succ_eq_map, List.all_cons, List.all_map]
          simp only [List.getD_cons_zero, eqV, Function.comp_def, List.getD_cons_succ, e4]
          congr 1
      · cases h
  | .str :: ks, .d (.str a) :: xs, .d (.str b) :: ys, r, h, vs, us, hv, hu, hx, hy => by
    simp only [eqCs] at h
    split at h
    · rename_i r1 h1
      cases h
      match vs, us, hv, hu with
      | v :: vs, u :: us, hv, hu =>
      obtain ⟨e1, e2, e3, e4⟩ := eqCs_sound h1 vs us (by simpa using hv) (by simpa using hu) (fun i hi => by simpa using hx (i + 1) (by simpa using hi)) (fun i hi => by simpa using hy (i + 1) (by simpa using hi))
      have hx0 := hx 0 (by simp)
      have hy0 := hy 0 (by simp)
      simp only [List.getD_cons_zero] at hx0 hy0
      obtain rfl := hx0.str_inv
      obtain rfl := hy0.str_inv
      refine ⟨by simp [e1], by simp [e2], fun i k hk => ?_, ?_⟩
      · cases i with
        | zero => simp at hk; subst hk; exact ⟨rfl, rfl⟩
        | succ i => simpa using e3 i k (by simpa using hk)
      · rw [List.length_cons, List.range_succ_eq_map, List.all_cons, List.all_map]
        simp only [List.getD_cons_zero, Function.comp_def, List.getD_cons_succ, Nat.succ_eq_add_one]
        rw [show eqV (.string ⟨a.toArray⟩) (.string ⟨b.toArray⟩) = decide (a = b) by simp only [eqV, ByteArray.toList_eq]; by_cases hab : a = b <;> simp [hab]]
        exact congrArg (fun z => decide (a = b) && z) e4
    · cases h

/-! ### Numbers, texts, bools -/
theorem evalBin_sound (hT : TTok P tt) {E : Env} (hE : E.B.tt = tt) {op : BinOp} {T U : TypeId} {ox oy : Operand} {vx vy : Value} {cx cy : C} {Kv : C → R}
    (h : evalBin E op T cx cy Kv) (hx : RepC tt w S g os vx cx) (hy : RepC tt w S g os vy cy) :
    ∃ v cv, (do eqGuard op T ox oy vx vy; binOp op T vx vy : Sem Value).run P w = .ok v w ∧ RepC tt w S g os v cv ∧ Kv cv := by
  unfold evalBin at h
  split at h
  · -- numbers
    rename_i k a k' b
    obtain rfl := hx.int_inv
    obtain rfl := hy.int_inv
    cases hk : ikBeq k k' with
    | false => simp [hk] at h
    | true =>
      have hk' : k = k' := ikBeq_eq hk
      subst hk'
      simp only [hk, cond_true] at h
      have hg : (eqGuard op T ox oy (.int k a) (.int k b)).run P w = .ok () w := by
        unfold eqGuard
        cases op <;> simp
      split at h
      · have hb0 : b ≠ 0 := by have := h.1; omega
        exact ⟨_, _, by simp [hg, binOp, Op.intDiv, hb0], rep_int _ _, h.2⟩
      · have hb0 : b ≠ 0 := by have := h.1; omega
        exact ⟨_, _, by simp [hg, binOp, Op.intDiv, hb0], rep_int _ _, h.2⟩
      · rename_i op' hq hr
        have e1 : ∀ a b : Int, (a == b) = decide (a = b) := fun a b => by by_cases hab : a = b <;> simp [hab]
        cases op <;> simp [bopI] at h <;> first
          | exact absurd rfl (hq ·)
          | exact ⟨_, _, by simp [hg, binOp, Op.intArith], rep_int _ _, h⟩
          | (refine ⟨_, _, ?_, rep_bool _, h⟩; simp [hg, binOp, Op.intCmp, e1, bne])
          | skip
  · rename_i a b
    have hla := hx.d_inv.str_le
    obtain rfl := hx.str_inv
    obtain rfl := hy.str_inv
    have hg : (eqGuard op T ox oy (.string ⟨a.toArray⟩) (.string ⟨b.toArray⟩)).run P w = .ok () w := by
      unfold eqGuard
      cases op <;> simp
    split at h
    · obtain ⟨hb, h⟩ := h
      refine ⟨_, _, ?_, rep_str (a ++ b) (by simpa using hb), h⟩
      have h1 : ¬ (((⟨a.toArray⟩ : ByteArray).size + (⟨b.toArray⟩ : ByteArray).size : Nat) : Int) > IntKind.i64.max := by
        rw [ba_size, ba_size]
        simp only [IntKind.max]
        have : IntKind.signed .i64 = true := rfl
        unfold big at hb
        simp [IntKind.bits, IntKind.signed]
        omega
      simp only [Sem.run_bind, hg, Result.andThen_ok, binOp, Op.stringOp, if_neg h1, Sem.run_pure]
      rw [ba_append]
    · rename_i op' hq
      have e1 : ∀ a b : Str, (a == b) = decide (a = b) := fun a b => by by_cases hab : a = b <;> simp [hab]
      cases op <;> simp [bopS] at h <;> first
        | exact absurd rfl (hq ·)
        | (refine ⟨_, _, ?_, rep_bool _, h⟩; simp [hg, binOp, Op.stringOp, strLt_eq, e1, bne])
        | skip
  · rename_i a b
    obtain rfl := hx.bool_inv
    obtain rfl := hy.bool_inv
    have hg : (eqGuard op T ox oy (.bool a) (.bool b)).run P w = .ok () w := by
      unfold eqGuard
      cases op <;> simp
    split at h
    · rename_i ks by' heq
      obtain ⟨info, hi⟩ := hT T _ (hE ▸ heq)
      have hu := hi.uk.1
      have he : (Op.equal T (.bool a) (.bool b)).run P w = .ok (a == b) w := by
        unfold Op.equal
        show (Op.equalIn (9999 + 1) T (.bool a) (.bool b)).run P w = _
        unfold Op.equalIn
        simp [run_underlying hu]
      split at h
      · exact ⟨_, _, by simp [hg, binOp, he], rep_bool _, h⟩
      · exact ⟨_, _, by simp [hg, binOp, he], rep_bool _, h⟩
      · cases h
    · cases h
  · rename_i xs ys
    split at h
    · rename_i fs ks by' heq
      obtain ⟨hsc, h⟩ := bif_some3 h
      split at h
      · rename_i b hb
        obtain ⟨info, hi⟩ := hT T _ (hE ▸ heq)
        obtain ⟨hk, hg0⟩ := hi.eqs rfl hsc
        obtain ⟨fields, hu, _⟩ := hi.uk
        cases hx with
        | agg _ vs hl1 hr1 =>
        cases hy with
        | agg _ us hl2 hr2 =>
        obtain ⟨e1, e2, e3, e4⟩ := eqCs_sound hb vs.toList us.toList (by simpa using hl1) (by simpa using hl2) (fun i hi => by rw [List.getD_eq_getElem?_getD, Array.getElem?_toList, ← Array.getD_eq_getD_getElem?]; exact hr1 i hi) (fun i hi => by rw [List.getD_eq_getElem?_getD, Array.getElem?_toList, ← Array.getD_eq_getD_getElem?]; exact hr2 i hi)
        simp only [List.getD_eq_getElem?_getD, Array.getElem?_toList, ← Array.getD_eq_getD_getElem?] at e3 e4
        have he : (Op.equalIn 10000 T (.agg vs) (.agg us)).run P w = .ok b w := by
          rw [eqKs_struct (eqKs_sound P 7) hu hk (by omega) ⟨by simp only; omega, fun i k hk => by rw [Nat.zero_add]; exact (e3 i k hk).1⟩ ⟨by simp only; omega, fun i k hk => by rw [Nat.zero_add]; exact (e3 i k hk).2⟩, ← e4]
          simp only [eqRun, Nat.zero_add]
        have hg : (eqGuard op T ox oy (.agg vs) (.agg us)).run P w = .ok () w := run_eqGuard_agg w op T ox oy vs us hg0
        split at h
        · exact ⟨_, _, by simp only [Sem.run_bind, hg, Result.andThen_ok, run_eql_struct, he], rep_bool _, h⟩
        · exact ⟨_, _, by simp only [Sem.run_bind, hg, Result.andThen_ok, run_neq_struct, he], rep_bool _, h⟩
        · cases h
      · cases h
    · cases h
  · cases h

end Go.Proofs.EN
/- Slices looked at. -/
namespace Go.Proofs.EN
open Go
set_option linter.unusedVariables false
set_option linter.unusedSimpArgs false
variable {tt : TypeId → Option TI} {P : Program} {c : Ctx} {w : World} {g : Gh} {os : List Ob} {S : Nat → Prop}

theorem Inv.now_lt (hI : Inv tt c w g os) {b : Nat} (h : Now c w g os.length b) : b < w.heap.size ∧ ¬ Tracked g os.length b := by
  rcases h with h | ⟨_, h1, h2⟩
  · have h0 := hI.s0 b h
    refine ⟨Nat.lt_of_lt_of_le h0.1 hI.kept.size, fun ⟨o, ho, ht⟩ => ?_⟩
    rcases (hI.own o b ho ht).1 with h1 | h1
    · omega
    · exact h0.2 h1
  · exact ⟨h1, h2⟩

theorem getD_some {o : Nat} {ob : Ob} (h : os.getD o .dead = ob) (hne : ob ≠ .dead) : os[o]? = some ob := by
  rw [List.getD_eq_getElem?_getD] at h
  cases hq : os[o]? with
  | none => simp [hq] at h; exact absurd h.symm hne
  | some q => simp [hq] at h; rw [h]
theorem some_getD {o : Nat} {ob : Ob} (h : os[o]? = some ob) : os.getD o .dead = ob := by
  rw [List.getD_eq_getElem?_getD, h]; rfl
theorem ob_lt {o : Nat} {ob : Ob} (h : os[o]? = some ob) : o < os.length := (List.getElem?_eq_some_iff.1 h).1
theorem Inv.eta (hI : Inv tt c w g os) {o : Nat} {ob : Ob} (h : os[o]? = some ob) : ∃ v, g.η[o]? = some v := by
  have := ob_lt h
  have := hI.len
  exact ⟨g.η[o], by simp [show o < g.η.length by omega]⟩
theorem isZ_up (m : Md) : m.up.isZ = false := by cases m <;> rfl
theorem isZ_lv {md : Md} (h : md.isZ = true) : md = .lv 0 := by
  cases md with
  | lv n => cases n with
    | zero => rfl
    | succ n => cases h
  | deep => cases h
theorem Md.beq_eq {a b : Md} (h : Md.beq a b = true) : a = b := by
  cases a <;> cases b <;> simp [Md.beq] at h <;> simp [h]
theorem up_inj {a b : Md} (h : a.up = b.up) : a = b := by
  cases a <;> cases b <;> simp [Md.up] at h <;> simp [h]
theorem up_down {m : Md} (h : m.isZ = false) : m.down.up = m := by
  cases m with
  | lv n => cases n with
    | zero => cases h
    | succ n => rfl
  | deep => rfl

/-- What lies in a slice that is owned. -/
def Cells (tt : TypeId → Option TI) (w : World) (S : Nat → Prop) (md : Md) (T : TypeId) (xs : List (List D)) (a : Option Addr) (cap : Nat) (φ : Nat → Prop) : Prop :=
  ∃ ti, tt T = some ti ∧ dataKs ti.cells = true ∧ 0 < ti.cells.length ∧ (∀ i, i < xs.length → fitsAll ti.cells (xs.getD i [])) ∧ ∃ (b : Nat) (vs : Array Value) (φs : Nat → Nat → Nat → Prop), a = some ⟨b, 0, none⟩ ∧ w.heap[b]? = some (.cells vs T (0, 0)) ∧ vs.size = cap * ti.cells.length ∧ φ b ∧
    (∀ i j x, i < xs.length → j < ti.cells.length → φs i j x → φ x ∧ x ≠ b) ∧
    (∀ i j i' j' x, i < xs.length → j < ti.cells.length → i' < xs.length → j' < ti.cells.length → φs i j x → φs i' j' x → i = i' ∧ j = j') ∧
    ∀ i j, i < xs.length → j < ti.cells.length → RepW tt w S md (vs.getD (i * ti.cells.length + j) Go.undef) ((xs.getD i []).getD j .z) (φs i j)
theorem RepW.list_inv {md : Md} {v : Value} {T : TypeId} {xs : List (List D)} {φ : Nat → Prop} (h : RepW tt w S md v (.list T xs) φ) (hz : md.isZ = false) :
    ∃ a cap, v = .slice a xs.length cap ∧ xs.length ≤ big ∧ xs.length ≤ cap ∧ (0 < cap → Cells tt w S md.down T xs a cap φ) := by
  cases h with
  | froz _ _ _ h => cases hz
  | sc _ _ _ _ h hs => cases hs
  | zero _ _ a => exact ⟨a, 0, rfl, by simp, by simp, fun h => by omega⟩
  | list m _ ti _ cap b _ vs φs ht hd hk hcap hc0 hb hfit hh hsz hφ hφs hdj hr =>
    refine ⟨_, cap, rfl, hb, hcap, fun _ => ⟨ti, ht, hd, hk, hfit, b, vs, φs, rfl, hh, hsz, hφ, hφs, hdj, ?_⟩⟩
    have : m.up.down = m := up_inj (up_down (isZ_up m))
    rw [this]
    exact hr
theorem Cells.repW {md : Md} {T : TypeId} {xs : List (List D)} {a : Option Addr} {cap : Nat} {φ : Nat → Prop} (h : Cells tt w S md T xs a cap φ) (h0 : 0 < cap) (hc : xs.length ≤ cap) (hb : xs.length ≤ big) : RepW tt w S md.up (.slice a xs.length cap) (.list T xs) φ := by
  obtain ⟨ti, ht, hd, hk, hfit, b, vs, φs, rfl, hh, hsz, hφ, hφs, hdj, hr⟩ := h
  exact .list md T ti xs cap b φ vs φs ht hd hk hc h0 hb hfit hh hsz hφ hφs hdj hr
theorem RowX.cells {md : Md} {v : Value} {T : TypeId} {xs : List (List D)} {φ : Nat → Prop} {ν : Nat → Nat → Value} (h : RowX tt w S (fun _ _ => False) md v T xs φ ν) :
    ∃ a cap, v = .slice a xs.length cap ∧ xs.length ≤ big ∧ xs.length ≤ cap ∧ (∃ ti, tt T = some ti ∧ dataKs ti.cells = true ∧ 0 < ti.cells.length ∧ ∀ i, i < xs.length → fitsAll ti.cells (xs.getD i [])) ∧ (0 < cap → Cells tt w S md T xs a cap φ) := by
  obtain ⟨a, cap, ti, rfl, ht, hd, hk, hfit, hle, hb, hc⟩ := h
  refine ⟨a, cap, rfl, hb, hle, ⟨ti, ht, hd, hk, hfit⟩, fun h0 => ?_⟩
  obtain ⟨b, vs, φs, rfl, hh, hsz, hφ, hφs, hdj, hr, _⟩ := hc h0
  exact ⟨ti, ht, hd, hk, hfit, b, vs, φs, rfl, hh, hsz, hφ, fun i j x hi hj => hφs i j x hi hj (fun h => h), fun i j i' j' x hi hj hi' hj' => hdj i j i' j' x hi hj hi' hj' (fun h => h) (fun h => h), fun i j hi hj => hr i j hi hj (fun h => h)⟩
theorem RowX.repW {md : Md} {v : Value} {T : TypeId} {xs : List (List D)} {φ : Nat → Prop} {ν : Nat → Nat → Value} (h : RowX tt w S (fun _ _ => False) md v T xs φ ν) : RepW tt w S md.up v (.list T xs) φ := by
  obtain ⟨a, cap, rfl, hb, hle, _, hc⟩ := h.cells
  rcases Nat.eq_zero_or_pos cap with h0 | h0
  · subst h0
    have : xs = [] := List.eq_nil_of_length_eq_zero (by omega)
    subst this
    exact .zero _ _ _ _
  · exact (hc h0).repW h0 hle hb

/-- A slice that stands in a row's cell. -/
theorem nst_inv {o : Nat} {T : TypeId} {md : Md} {ver : Nat} {xs : List (List D)} {v0 : Value} (h : RepO tt w S g os o (.row T md ver xs) v0) (hz : md.isZ = false) {i off : Nat} {e : TypeId} {ti : TI} (hi : i < xs.length) (ht : tt T = some ti) (he : ti.cells[off]? = some (.list e)) :
    ∃ φ', (∀ x, φ' x → g.φ o x) ∧ (xs.getD i []).getD off .z = .list e (nstF xs i off) ∧ RepW tt w S md (g.ν o i off) (.list e (nstF xs i off)) φ' := by
  obtain ⟨a, cap, ti', rfl, ht', hd, hk, hfit, hle, hb, hc⟩ := h
  rw [ht] at ht'; cases ht'
  obtain ⟨b, vs, φs, rfl, hh, hsz, hφ, hφs, hdj, hr, hv⟩ := hc (by omega)
  have hoff : off < ti.cells.length := (List.getElem?_eq_some_iff.1 he).1
  obtain ⟨ys, hys⟩ := fitsAll_at (hfit i hi) off _ he
  have hn : nstF xs i off = ys := by unfold nstF; rw [hys]; rfl
  refine ⟨φs i off, fun x hx => (hφs i off x hi hoff (fun h => h) hx).1, by rw [hn, hys], ?_⟩
  have := hr i off hi hoff (fun h => h)
  rw [(hv i off e hi he).1, hys] at this
  rw [hn]
  exact this

theorem mapOK_inv {K V : TypeId} {ck cv : CK} (h : mapOK tt K V = some (ck, cv)) : ∃ tk tv, tt K = some tk ∧ tt V = some tv ∧ keyK tk.uk = some ck ∧ tv.cells = [cv] ∧ cv.data = true ∧ tv.uk.isAgg = false ∧ ksBeq tk.cells [ck] = true := by
  unfold mapOK at h
  split at h
  · rename_i tk tv h1 h2
    split at h
    · rename_i ck' cv' h3 h4
      cases hb : ((cv'.data && !tv.uk.isAgg) && ksBeq tk.cells [ck']) with
      | false => rw [hb] at h; cases h
      | true =>
        rw [hb] at h
        simp only [cond_true, Option.some.injEq, Prod.mk.injEq] at h
        obtain ⟨rfl, rfl⟩ := h
        simp only [Bool.and_eq_true, Bool.not_eq_true'] at hb
        exact ⟨tk, tv, h1, h2, h3, h4, hb.1.1, hb.1.2, hb.2⟩
    · cases h
  · cases h
theorem mapOK_cv {K V : TypeId} {ck cv k : CK} {ti : TI} (h : mapOK tt K V = some (ck, cv)) (ht : tt V = some ti) (he : ti.cells[0]? = some k) : cv = k := by
  obtain ⟨_, tv, _, h2, _, h4, _⟩ := mapOK_inv h
  rw [ht] at h2; cases h2
  rw [h4] at he
  simpa using he
/-- A slice that stands in a map's entry. -/
theorem map_inv {o : Nat} {K V : TypeId} {md : Md} {ver : Nat} {es : List (D × D)} {v0 : Value} (h : RepO tt w S g os o (.map K V md ver es) v0) {i : Nat} {e : TypeId} {ti : TI} (hi : i < es.length) (ht : tt V = some ti) (he : ti.cells[0]? = some (.list e)) :
    ∃ φ', (∀ x, φ' x → g.φ o x) ∧ (es.getD i (.z, .z)).2 = .list e (mapF es i) ∧ RepW tt w S md (g.ν o i 0) (.list e (mapF es i)) φ' := by
  obtain ⟨b, ents, clock, ck, cv, φs, rfl, hh, hk, hφb, hsz, hφs, hdj, hr⟩ := h
  have hcv := mapOK_cv hk ht he
  subst hcv
  obtain ⟨m, h1, h2, ⟨ys, hys⟩, h4, h5, h6, h7⟩ := hr i es[i] (List.getElem?_eq_getElem hi)
  have e0 : es.getD i (.z, .z) = es[i] := by simp [List.getD_eq_getElem?_getD, hi]
  have e1 : mapF es i = ys := by unfold mapF; rw [e0, hys]; rfl
  have h8 := h5 (fun h => h)
  rw [hys] at h8
  exact ⟨φs i, fun x hx => (hφs i x hi (fun h => h) hx).1, by rw [e0, e1, hys], by rw [h6, e1]; exact h8⟩

/-- Everything that lies in memory. -/
def All (w : World) (b : Nat) : Prop := b < w.heap.size
theorem Inv.now_all (hI : Inv tt c w g os) {b : Nat} (h : Now c w g os.length b) : All w b := (hI.now_lt h).1

/-- How elements lie in memory. -/
def Laid (tt : TypeId → Option TI) (w : World) (S : Nat → Prop) (B : Nat → Prop) (e : TypeId) (xs : List (List D)) (a : Option Addr) : Prop :=
  ∃ ti, tt e = some ti ∧ dataKs ti.cells = true ∧ 0 < ti.cells.length ∧ (∀ i, i < xs.length → fitsAll ti.cells (xs.getD i [])) ∧
    ∃ b off, a = some ⟨b, off, none⟩ ∧ b < w.heap.size ∧ B b ∧ ∃ vs : Nat → Nat → Value, (∀ i j, i < xs.length → j < ti.cells.length → w.cell? ⟨b, off + (i * ti.cells.length + j), none⟩ = some (vs i j)) ∧
      ∀ i j, i < xs.length → j < ti.cells.length → Rep tt w S (vs i j) ((xs.getD i []).getD j .z)
theorem Rep.laid {a : Option Addr} {n cap : Nat} {T : TypeId} {xs : List (List D)} (h : Rep tt w S (.slice a n cap) (.list T xs)) : n = xs.length ∧ xs.length ≤ cap ∧ xs.length ≤ big ∧ (0 < xs.length → Laid tt w S S T xs a) := by
  cases h with
  | nil => exact ⟨rfl, by simp, by simp, fun h => by simp at h⟩
  | list _ ti _ _ _ b off vs ht hd hk hcp hb hfit ha hc hr =>
    refine ⟨rfl, hcp, hb, fun h0 => ⟨ti, ht, hd, hk, hfit, b, off, (ha h0).1, ?_, (ha h0).2, vs, hc, hr⟩⟩
    exact World.block_lt_of_cell? (a := ⟨b, off + (0 * ti.cells.length + 0), none⟩) w (hc 0 0 h0 hk)
theorem Rep.slice {v : Value} {T : TypeId} {xs : List (List D)} (h : Rep tt w S v (.list T xs)) : ∃ a cap, v = .slice a xs.length cap := by
  cases h with
  | nil _ a cap => exact ⟨a, cap, rfl⟩
  | list _ ti _ a cap => exact ⟨a, cap, rfl⟩
theorem Laid.mono {S' B B' : Nat → Prop} {e : TypeId} {xs : List (List D)} {a : Option Addr} (h : Laid tt w S B e xs a) (hS : ∀ b, S b → S' b) (hB : ∀ b, B b → B' b) : Laid tt w S' B' e xs a := by
  obtain ⟨ti, h1, h2, h3, h4, b, off, h5, h6, h7, vs, h8, h9⟩ := h
  exact ⟨ti, h1, h2, h3, h4, b, off, h5, h6, hB b h7, vs, h8, fun i j hi hj => (h9 i j hi hj).mono fun b hb => ⟨hS b hb, rfl⟩⟩
theorem Laid.sub {B : Nat → Prop} {e : TypeId} {xs : List (List D)} {a : Option Addr} (h : Laid tt w S B e xs a) {lo n : Nat} (hn : lo + n ≤ xs.length) (cap : Nat) (hc : cap = lo → n = 0) (h0 : 0 < n) (k : Nat) (hk : ∀ ti, tt e = some ti → k = ti.cells.length) :
    Laid tt w S B e ((xs.take (lo + n)).drop lo) (if cap = lo then a else a.map (·.add (lo * k))) := by
  obtain ⟨ti, h1, h2, h3, h4, b, off, rfl, h6, h7, vs, h8, h9⟩ := h
  have := hk ti h1
  subst this
  have hl : ((xs.take (lo + n)).drop lo).length = n := by simp; omega
  have hg : ∀ i, i < n → ((xs.take (lo + n)).drop lo).getD i [] = xs.getD (lo + i) [] := fun i hi => by
    simp [List.getD_eq_getElem?_getD, show lo + i < lo + n by omega]
  refine ⟨ti, h1, h2, h3, fun i hi => ?_, b, off + lo * ti.cells.length, ?_, h6, h7, fun i j => vs (lo + i) j, fun i j hi hj => ?_, fun i j hi hj => ?_⟩
  · rw [hl] at hi
    rw [hg i hi]
    exact h4 _ (by omega)
  · rw [if_neg (fun e => by have := hc e; omega)]
    simp [Addr.add_lit]
  · rw [hl] at hi
    rw [show off + lo * ti.cells.length + (i * ti.cells.length + j) = off + ((lo + i) * ti.cells.length + j) by rw [Nat.add_mul]; omega]
    exact h8 _ _ (by omega) hj
  · rw [hl] at hi
    rw [hg i hi]
    exact h9 _ _ (by omega) hj

def C.own : C → Bool
  | .row _ => true
  | .nst _ _ _ _ _ => true
  | .nsl _ _ _ _ _ _ _ => true
  | _ => false

/-- Slices looked at. -/
theorem elems_rep {e : TypeId} {cx : C} {v : Value} {xs : List (List D)} (hI : Inv tt c w g os) (h : elems e cx os = some xs) (hx : RepC tt w (Now c w g os.length) g os v cx) :
    ∃ a cap, v = .slice a xs.length cap ∧ xs.length ≤ big ∧ xs.length ≤ cap ∧ (0 < xs.length → Laid tt w (All w) (All w) e xs a ∧ (cx.own = false → Laid tt w (Now c w g os.length) (Now c w g os.length) e xs a)) := by
  have data : ∀ {a : Option Addr} {cap : Nat}, v = .slice a xs.length cap → Rep tt w (Now c w g os.length) (.slice a xs.length cap) (.list e xs) →
      ∃ a cap, v = .slice a xs.length cap ∧ xs.length ≤ big ∧ xs.length ≤ cap ∧ (0 < xs.length → Laid tt w (All w) (All w) e xs a ∧ (cx.own = false → Laid tt w (Now c w g os.length) (Now c w g os.length) e xs a)) := by
    intro a cap hv hr
    obtain ⟨_, h2, h3, h4⟩ := hr.laid
    exact ⟨a, cap, hv, h3, h2, fun h0 => ⟨(h4 h0).mono (fun b hb => hI.now_all hb) (fun b hb => hI.now_all hb), fun _ => h4 h0⟩⟩
  have own : ∀ {a : Option Addr} {n cap : Nat}, cx.own = true → v = .slice a n cap → Rep tt w (All w) (.slice a n cap) (.list e xs) →
      ∃ a cap, v = .slice a xs.length cap ∧ xs.length ≤ big ∧ xs.length ≤ cap ∧ (0 < xs.length → Laid tt w (All w) (All w) e xs a ∧ (cx.own = false → Laid tt w (Now c w g os.length) (Now c w g os.length) e xs a)) := by
    intro a n cap ho hv hr
    obtain ⟨h1, h2, h3, h4⟩ := hr.laid
    subst h1
    exact ⟨a, cap, hv, h3, h2, fun h0 => ⟨h4 h0, fun hf => by rw [ho] at hf; cases hf⟩⟩
  have frz : ∀ {md : Md} {u : Value} {d : D} {φ : Nat → Prop} {o : Nat}, RepW tt w (Now c w g os.length) md u d φ → o < os.length → (∀ x, φ x → g.φ o x) → Rep tt w (All w) u d := by
    intro md u d φ o hr ho hφ
    exact hr.frz (fun b hb => hI.now_all hb) fun b hb => (hI.own o b ho (hφ b hb)).2
  have nested : ∀ {o ver i off : Nat} {T0 : TypeId} {md : Md} {xs0 : List (List D)}, os[o]? = some (.row T0 md ver xs0) → md.isZ = false → i < xs0.length → (∃ ti, tt T0 = some ti ∧ ti.cells[off]? = some (.list e)) →
      ∃ a n cap, g.ν o i off = .slice a n cap ∧ Rep tt w (All w) (.slice a n cap) (.list e (nstF xs0 i off)) := by
    intro o ver i off T0 md xs0 ho hz hi ⟨ti, ht, he⟩
    obtain ⟨v0, hv0⟩ := hI.eta ho
    obtain ⟨φ', h1, h2, h3⟩ := nst_inv (hI.ob o _ v0 ho hv0) hz hi ht he
    have := frz h3 (ob_lt ho) h1
    obtain ⟨a, cap, he⟩ := this.slice
    exact ⟨a, _, cap, he, by rw [← he]; exact this⟩
  unfold elems at h
  split at h
  · rename_i T ys
    cases hT : Nat.beq T e with
    | false => simp [hT] at h
    | true =>
      have hT' : T = e := Nat.eq_of_beq_eq_true hT
      simp only [hT, cond_true, Option.some.injEq] at h
      subst h hT'
      obtain ⟨a, cap, rfl⟩ := hx.d_inv.slice
      exact data rfl hx.d_inv
  · rename_i T ys
    cases hT : Nat.beq T e with
    | false => simp [hT] at h
    | true =>
      have hT' : T = e := Nat.eq_of_beq_eq_true hT
      simp only [hT, cond_true, Option.some.injEq] at h
      subst h hT'
      cases hx with
      | full a _ _ n hn h => subst hn; exact data rfl h
  · simp only [Option.some.injEq] at h
    subst h
    cases hx with
    | cap0 a => exact ⟨a, 0, rfl, by simp, by simp, fun h => by simp at h⟩
  · rename_i o
    split at h
    · rename_i T md ver ys ho
      cases hT : Nat.beq T e with
      | false => simp [hT] at h
      | true =>
        have hT' : T = e := Nat.eq_of_beq_eq_true hT
        simp only [hT, cond_true, Option.some.injEq] at h
        subst h hT'
        have ho' := getD_some ho (by simp)
        cases hx with
        | row _ _ hol hrow h1 =>
          have hv := hrow (by rw [ho']; simp)
          have := frz (hI.ob o _ v ho' hv).repW (ob_lt ho') (fun _ h => h)
          obtain ⟨a, cap, rfl⟩ := this.slice
          exact own rfl rfl this
    · rename_i T ys ho
      cases hT : Nat.beq T e with
      | false => simp [hT] at h
      | true =>
        have hT' : T = e := Nat.eq_of_beq_eq_true hT
        simp only [hT, cond_true, Option.some.injEq] at h
        subst h hT'
        have ho' := getD_some ho (by simp)
        cases hx with
        | row _ _ hol hrow h1 =>
          have hv := hrow (by rw [ho']; simp)
          have hr : Rep tt w (Now c w g os.length) v (.list T ys) := hI.ob o _ v ho' hv
          obtain ⟨a, cap, rfl⟩ := hr.slice
          exact data rfl hr
    · cases h
  · rename_i e' o ver i off
    split at h
    · rename_i T0 md ver' xs0 ho
      obtain ⟨hc1, hxs⟩ : (Nat.beq e' e && (Nat.beq ver ver' && !md.isZ)) = true ∧ nstF xs0 i off = xs := by
        cases hb : (Nat.beq e' e && (Nat.beq ver ver' && !md.isZ)) with
        | false => simp [hb] at h
        | true => simpa [hb] using h
      simp only [Bool.and_eq_true, Bool.not_eq_true'] at hc1
      obtain ⟨h1, h2, h3⟩ := hc1
      have h1 := Nat.eq_of_beq_eq_true h1
      have h2 := Nat.eq_of_beq_eq_true h2
      subst h1 h2 hxs
      have ho' := getD_some ho (by simp)
      cases hx with
      | nst _ _ _ _ _ _ hol hn hone =>
        obtain ⟨rfl, hi, hti⟩ := (hn T0 _ _ (.inl ⟨md, xs0, ho', rfl⟩)).2 rfl
        obtain ⟨a, n, cap, h5, h6⟩ := nested ho' h3 hi hti
        exact own rfl h5 h6
    · rename_i K T0 md ver' es0 ho
      obtain ⟨hc1, hxs⟩ : (Nat.beq e' e && (Nat.beq ver ver' && (!md.isZ && Nat.beq off 0))) = true ∧ mapF es0 i = xs := by
        cases hb : (Nat.beq e' e && (Nat.beq ver ver' && (!md.isZ && Nat.beq off 0))) with
        | false => simp [hb] at h
        | true => simpa [hb] using h
      simp only [Bool.and_eq_true, Bool.not_eq_true'] at hc1
      obtain ⟨h1, h2, h3, h4⟩ := hc1
      have h1 := Nat.eq_of_beq_eq_true h1
      have h2 := Nat.eq_of_beq_eq_true h2
      have h4 := Nat.eq_of_beq_eq_true h4
      subst h1 h2 hxs h4
      have ho' := getD_some ho (by simp)
      cases hx with
      | nst _ _ _ _ _ _ hol hn hone =>
        obtain ⟨rfl, hi, ti, hti, hke⟩ := (hn T0 _ _ (.inr (.inr (.inl ⟨K, md, es0, ho', Nat.le_refl _⟩)))).2 rfl
        obtain ⟨v0, hv0⟩ := hI.eta ho'
        obtain ⟨φ', q1, q2, q3⟩ := map_inv (hI.ob o _ v0 ho' hv0) hi hti hke
        have hq := frz q3 (ob_lt ho') q1
        obtain ⟨a, cap, he⟩ := hq.slice
        exact own rfl he (by rw [← he]; exact hq)
    · cases h
  · rename_i e' o ver i off lo n
    split at h
    · rename_i T0 md ver' xs0 ho
      obtain ⟨hc1, hxs⟩ : (Nat.beq e' e && (Nat.beq ver ver' && !md.isZ)) = true ∧ nstL xs0 i off lo n = xs := by
        cases hb : (Nat.beq e' e && (Nat.beq ver ver' && !md.isZ)) with
        | false => simp [hb] at h
        | true => simpa [hb] using h
      simp only [Bool.and_eq_true, Bool.not_eq_true'] at hc1
      obtain ⟨h1, h2, h3⟩ := hc1
      have h1 := Nat.eq_of_beq_eq_true h1
      have h2 := Nat.eq_of_beq_eq_true h2
      subst h1 h2 hxs
      have ho' := getD_some ho (by simp)
      cases hx with
      | nsl _ _ _ _ _ _ _ _ hol hn hone =>
        obtain ⟨⟨te, hte, a1, m1, cap1, hν, hlo, rfl⟩, hi, hti⟩ := (hn T0 _ _ (.inl ⟨md, xs0, ho', rfl⟩)).2 rfl
        obtain ⟨a, n2, cap, h5, h6⟩ := nested ho' h3 hi hti
        rw [hν] at h5
        cases h5
        obtain ⟨h7, h8, h9, h10⟩ := h6.laid
        subst h7
        have hl : (nstL xs0 i off lo n).length = n := by unfold nstL; simp; omega
        refine ⟨_, _, by rw [hl], by omega, by omega, fun h0 => ?_⟩
        rw [hl] at h0
        refine ⟨(h10 (by omega)).sub hlo cap1 (fun he => by omega) h0 te.cells.length (fun ti h => by rw [hte] at h; cases h; rfl), fun hf => by cases hf⟩
    · cases h
  · cases h

end Go.Proofs.EN
