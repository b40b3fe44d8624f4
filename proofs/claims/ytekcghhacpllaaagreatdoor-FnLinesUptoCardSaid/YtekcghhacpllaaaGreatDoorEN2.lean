/- Contracts of functions of this program, by the evaluator EN. No conditions but those that each theorem states. -/
import Derived.Test.YtekcghhacpllaaaGreatDoorEN1
import Derived.Below
import Derived.Laws.AppendOwn
import Derived.Laws.Cells
import Derived.Tactics
/- What the evaluator's values stand for in a world. -/
namespace Go.Proofs.EN
open Go
set_option linter.unusedVariables false

/-! ### The table of types -/
def zeroV : CK → Value
  | .bool => .bool false
  | .int k => .int k 0
  | .str => .string ⟨#[]⟩
  | .list _ => .slice none 0 0
  | .iface => .nilIface
  | .other => .nilIface
def UK.ok (P : Program) (T : TypeId) (cells : List CK) : UK → Prop
  | .bool => P.underlying T = some .bool ∧ cells = [.bool]
  | .int k => P.underlying T = some (.int k) ∧ cells = [.int k]
  | .str => P.underlying T = some .string ∧ cells = [.str]
  | .slice e => P.underlying T = some (.slice e) ∧ cells = [.list e]
  | .struct fs => ∃ fields : Array Field, P.underlying T = some (.struct fields) ∧ fields.toList.map (fun f => (f.offset, f.type)) = fs ∧ ∀ f ∈ fields.toList, (P.info? f.type).isSome = true
  | .ptr e => P.underlying T = some (.pointer e) ∧ cells = [.other]
  | .func => (∃ a b c, P.underlying T = some (.func a b c)) ∧ cells = [.other]
  | .map k v => P.underlying T = some (.map k v) ∧ cells = [.other]
  | .iface => (∃ ms, P.underlying T = some (.interface ms)) ∧ cells = [.iface]
  | .tuple _ => (∃ ts, P.underlying T = some (.tuple ts))
/-- Kinds of cells of a type that is compared cell by cell. -/
def eqFs (f : TypeId → Option (List CK)) : List Field → Nat → Option (List CK)
  | [], _ => some []
  | x :: r, off => bif (x.name != "_") && Nat.beq x.offset off then match f x.type with
    | some ks => match eqFs f r (off + ks.length) with
      | some js => some (ks ++ js)
      | none => none
    | none => none
    else none
def eqKs (P : Program) : Nat → TypeId → Option (List CK)
  | 0, _ => none
  | n + 1, T => match P.underlying T with
    | some .bool => some [.bool]
    | some (.int k) => some [.int k]
    | some .string => some [.str]
    | some (.struct fs) => bif P.stoodInHeld T then none else match eqFs (eqKs P n) fs.toList 0, P.info? T with
      | some ks, some i => bif Nat.beq i.size ks.length then some ks else none
      | _, _ => none
    | _ => none
structure TIok (P : Program) (T : TypeId) (ti : TI) (info : TypeInfo) : Prop where
  inf : P.info? T = some info
  size : info.size = ti.cells.length
  bytes : info.bytes = ti.bytes
  uk : ti.uk.ok P T ti.cells
  zero : ∃ zv, info.zero = some zv ∧ zv.cells.size = ti.cells.length ∧ ∀ i k, ti.cells[i]? = some k → (k ≠ .other → zv.cells.getD i undef = zeroV k) ∧ (zv.cells.getD i undef).oneCell' = true
  zone : ti.uk.isAgg = false → ∀ zv, info.zero = some zv → zv.oneCell' = true
  zagg : ti.uk.isAgg = true → ∃ vs, info.zero = some (.agg vs)
  eqs : ti.uk.isAgg = true → scalKs ti.cells = true → eqKs P 8 T = some ti.cells ∧ P.eqGuardType P.depth T = false
def TTok (P : Program) (tt : TypeId → Option TI) : Prop := ∀ T ti, tt T = some ti → ∃ info, TIok P T ti info

/-! ### Plain data in a world -/
section
variable (tt : TypeId → Option TI)
inductive Rep (w : World) (S : Nat → Prop) : Value → D → Prop
  | bool (b : Bool) : Rep w S (.bool b) (.bool b)
  | int (k : IntKind) (n : Int) : Rep w S (.int k n) (.int k n)
  | str (l : Str) (hb : l.length ≤ big) : Rep w S (.string ⟨l.toArray⟩) (.str l)
  | nilI : Rep w S .nilIface .nilI
  | errN : Rep w S .nilIface (.errv true)
  | errE (t : TypeId) (v : Value) : Rep w S (.iface t v) (.errv false)
  | nil (T : TypeId) (a : Option Addr) (cap : Nat) : Rep w S (.slice a 0 cap) (.list T [])
  | iface (t : TypeId) (v : Value) (d : D) (ti : TI) (k : CK) (ht : tt t = some ti) (hc : ti.cells = [k]) (hk : k.scalar = true) (ha : ti.uk.isAgg = false) (hf : k.fits d) (h : Rep w S v d) : Rep w S (.iface t v) (.iface t d)
  | ifaceS (t : TypeId) (vs : Array Value) (ds : List D) (ti : TI) (ht : tt t = some ti) (hk : scalKs ti.cells = true) (ha : ti.uk.isAgg = true) (hf : fitsAll ti.cells ds) (hl : vs.size = ti.cells.length)
      (h : ∀ i, i < ti.cells.length → Rep w S (vs.getD i Go.undef) (ds.getD i .z)) : Rep w S (.iface t (.agg vs)) (.ifaceS t ds)
  | list (T : TypeId) (ti : TI) (xs : List (List D)) (a : Option Addr) (cap : Nat) (b off : Nat) (vs : Nat → Nat → Value) (ht : tt T = some ti) (hd : dataKs ti.cells = true) (hk : 0 < ti.cells.length) (hcap : xs.length ≤ cap) (hb : xs.length ≤ big)
      (hfit : ∀ i, i < xs.length → fitsAll ti.cells (xs.getD i []))
      (ha : 0 < xs.length → a = some ⟨b, off, none⟩ ∧ S b)
      (hc : ∀ i j, i < xs.length → j < ti.cells.length → w.cell? ⟨b, off + (i * ti.cells.length + j), none⟩ = some (vs i j))
      (hr : ∀ i j, i < xs.length → j < ti.cells.length → Rep w S (vs i j) ((xs.getD i []).getD j .z)) : Rep w S (.slice a xs.length cap) (.list T xs)

def D.isL : D → Bool
  | .list _ _ => true
  | _ => false

/-- Data some of whose lists lie in blocks of their own. -/
inductive RepW (w : World) (S : Nat → Prop) : Md → Value → D → (Nat → Prop) → Prop
  | froz (v : Value) (d : D) (φ : Nat → Prop) (h : Rep tt w S v d) : RepW w S (.lv 0) v d φ
  | sc (md : Md) (v : Value) (d : D) (φ : Nat → Prop) (h : Rep tt w S v d) (hs : d.isL = false) : RepW w S md v d φ
  | zero (md : Md) (T : TypeId) (a : Option Addr) (φ : Nat → Prop) : RepW w S md (.slice a 0 0) (.list T []) φ
  | list (md : Md) (T : TypeId) (ti : TI) (xs : List (List D)) (cap b : Nat) (φ : Nat → Prop) (vs : Array Value) (φs : Nat → Nat → Nat → Prop) (ht : tt T = some ti) (hd : dataKs ti.cells = true) (hk : 0 < ti.cells.length)
      (hcap : xs.length ≤ cap) (hc0 : 0 < cap) (hb : xs.length ≤ big) (hfit : ∀ i, i < xs.length → fitsAll ti.cells (xs.getD i []))
      (hh : w.heap[b]? = some (.cells vs T (0, 0))) (hsz : vs.size = cap * ti.cells.length)
      (hφ : φ b) (hφs : ∀ i j x, i < xs.length → j < ti.cells.length → φs i j x → φ x ∧ x ≠ b)
      (hdj : ∀ i j i' j' x, i < xs.length → j < ti.cells.length → i' < xs.length → j' < ti.cells.length → φs i j x → φs i' j' x → i = i' ∧ j = j')
      (hr : ∀ i j, i < xs.length → j < ti.cells.length → RepW w S md (vs.getD (i * ti.cells.length + j) Go.undef) ((xs.getD i []).getD j .z) (φs i j)) : RepW w S md.up (.slice (some ⟨b, 0, none⟩) xs.length cap) (.list T xs) φ
end

variable {tt : TypeId → Option TI}

theorem cell_same {w w' : World} {a : Addr} (h : w'.heap[a.block]? = w.heap[a.block]?) : w'.cell? a = w.cell? a := World.cell?_of_block h

theorem Rep.mono {w w' : World} {S S' : Nat → Prop} (hS : ∀ b, S b → S' b ∧ w'.heap[b]? = w.heap[b]?) {v : Value} {d : D} (h : Rep tt w S v d) : Rep tt w' S' v d := by
  induction h with
  | bool b => exact .bool b
  | int k n => exact .int k n
  | str l hb => exact .str l hb
  | nilI => exact .nilI
  | errN => exact .errN
  | errE t v => exact .errE t v
  | nil T a cap => exact .nil T a cap
  | iface t v d ti k ht hc hk ha hf _ ih => exact .iface t v d ti k ht hc hk ha hf ih
  | ifaceS t vs ds ti ht hk ha hf hl _ ih => exact .ifaceS t vs ds ti ht hk ha hf hl ih
  | list T ti xs a cap b off vs ht hd hk hcap hb hfit ha hc hr ih =>
    refine .list T ti xs a cap b off vs ht hd hk hcap hb hfit (fun h => ⟨(ha h).1, (hS b (ha h).2).1⟩) (fun i j hi hj => ?_) ih
    rw [cell_same (hS b (ha (by omega)).2).2]
    exact hc i j hi hj

theorem RepW.mono {w w' : World} {S S' : Nat → Prop} {md : Md} {v : Value} {d : D} {φ φ' : Nat → Prop} (hS : ∀ b, S b → S' b ∧ w'.heap[b]? = w.heap[b]?) (hφ : ∀ b, φ b → φ' b ∧ w'.heap[b]? = w.heap[b]?) (h : RepW tt w S md v d φ) : RepW tt w' S' md v d φ' := by
  induction h generalizing φ' with
  | froz v d φ h => exact .froz v d φ' (h.mono hS)
  | sc md v d φ h hs => exact .sc md v d φ' (h.mono hS) hs
  | zero md T a φ => exact .zero md T a φ'
  | list md T ti xs cap b φ vs φs ht hd hk hcap hc0 hb hfit hh hsz hφb hφs hdj hr ih =>
    exact .list md T ti xs cap b φ' vs φs ht hd hk hcap hc0 hb hfit ((hφ b hφb).2.trans hh) hsz (hφ b hφb).1 (fun i j x hi hj hx => ⟨(hφ x (hφs i j x hi hj hx).1).1, (hφs i j x hi hj hx).2⟩) hdj
      (fun i j hi hj => ih i j hi hj fun x hx => ⟨hx, (hφ x (hφs i j x hi hj hx).1).2⟩)

theorem idx_lt {i j m k : Nat} (hi : i < m) (hj : j < k) : i * k + j < m * k := by
  calc i * k + j < i * k + k := by omega
    _ = (i + 1) * k := by rw [Nat.add_mul, Nat.one_mul]
    _ ≤ m * k := Nat.mul_le_mul_right _ (by omega)

/-- What is owned is given up: it is plain data. -/
theorem RepW.frz {w : World} {S S' : Nat → Prop} {md : Md} {v : Value} {d : D} {φ : Nat → Prop} (h : RepW tt w S md v d φ) : (∀ b, S b → S' b) → (∀ b, φ b → S' b) → Rep tt w S' v d := by
  induction h with
  | froz v d φ h => exact fun hS _ => h.mono fun b hb => ⟨hS b hb, rfl⟩
  | sc md v d φ h hs => exact fun hS _ => h.mono fun b hb => ⟨hS b hb, rfl⟩
  | zero md T a φ => exact fun _ _ => .nil T a 0
  | list md T ti xs cap b φ vs φs ht hd hk hcap hc0 hb hfit hh hsz hφb hφs hdj hr ih =>
    intro hS hφ
    refine .list T ti xs _ cap b 0 (fun i j => vs.getD (i * ti.cells.length + j) Go.undef) ht hd hk hcap hb hfit (fun _ => ⟨rfl, hφ b hφb⟩) (fun i j hi hj => ?_) (fun i j hi hj => ih i j hi hj hS fun x hx => hφ x (hφs i j x hi hj hx).1)
    have hlt : i * ti.cells.length + j < vs.size := by rw [hsz]; exact idx_lt (by omega) hj
    rw [Nat.zero_add, cell_of_row w b _ vs T (0, 0) hh]
    simp [Array.getD, hlt]

theorem Rep.one {w : World} {S : Nat → Prop} {v : Value} {d : D} (h : Rep tt w S v d) : v.oneCell' = true := by cases h <;> rfl
theorem Rep.cells {w : World} {S : Nat → Prop} {v : Value} {d : D} (h : Rep tt w S v d) : v.cells = #[v] := by cases h <;> rfl
theorem RepW.one {w : World} {S : Nat → Prop} {md : Md} {v : Value} {d : D} {φ : Nat → Prop} (h : RepW tt w S md v d φ) : v.oneCell' = true := by
  cases h with
  | froz v d φ h => exact h.one
  | sc md v d φ h hs => exact h.one
  | zero => rfl
  | list => rfl

theorem fitsAll_length : ∀ {ks : List CK} {ds : List D}, fitsAll ks ds → ds.length = ks.length
  | [], [], _ => rfl
  | _ :: ks, _ :: ds, h => by simp [fitsAll_length h.2]
theorem fitsAll_at : ∀ {ks : List CK} {ds : List D}, fitsAll ks ds → ∀ (i : Nat) (k : CK), ks[i]? = some k → k.fits (ds.getD i .z)
  | [], [], _, i, k, h => by simp at h
  | k0 :: ks, d :: ds, h, 0, k, hk => by simp at hk; subst hk; exact h.1
  | k0 :: ks, d :: ds, h, i + 1, k, hk => by simpa using fitsAll_at h.2 i k (by simpa using hk)
theorem fitsAll_of : ∀ {ks : List CK} {ds : List D}, ds.length = ks.length → (∀ (i : Nat) (k : CK), ks[i]? = some k → k.fits (ds.getD i .z)) → fitsAll ks ds
  | [], [], _, _ => trivial
  | [], _ :: _, h, _ => by simp at h
  | _ :: _, [], h, _ => by simp at h
  | k :: ks, d :: ds, h, hf => ⟨by simpa using hf 0 k rfl, fitsAll_of (by simpa using h) fun i k' hk => by simpa using hf (i + 1) k' (by simpa using hk)⟩
theorem CK.norm_fits {k : CK} {d : D} (h : k.fits d) : k.norm d = d := by
  cases k with
  | bool => obtain ⟨b, rfl⟩ := h; rfl
  | int k => obtain ⟨n, rfl⟩ := h; rfl
  | str => obtain ⟨s, rfl⟩ := h; rfl
  | list e => obtain ⟨xs, rfl⟩ := h; rfl
  | iface => rfl
  | other => exact h.elim
theorem CK.fits_isL {k : CK} {d : D} (h : k.fits d) : d.isL = k.isL := by
  cases k with
  | bool => obtain ⟨b, rfl⟩ := h; rfl
  | int k => obtain ⟨n, rfl⟩ := h; rfl
  | str => obtain ⟨s, rfl⟩ := h; rfl
  | list e => obtain ⟨xs, rfl⟩ := h; rfl
  | iface => rcases h with rfl | ⟨t, x, rfl⟩ | ⟨t, x, rfl⟩ | ⟨b, rfl⟩ <;> rfl
  | other => exact h.elim

/-! ### The evaluator's values -/
/-- What is known of the objects beside their contents: where they lie; what stands in their cells where lists stand; which blocks are theirs. -/
structure Gh where
  η : List Value
  ν : Nat → Nat → Nat → Value
  φ : Nat → Nat → Prop

/-- A row of that length, in whatever state. -/
def isR3 (os : List Ob) (o : Nat) (T : TypeId) (n : Nat) : Prop :=
  (∃ md ver xs, os[o]? = some (.row T md ver xs) ∧ xs.length = n) ∨ (∃ md ver xs i j, os[o]? = some (.hole T md ver xs i j) ∧ xs.length = n) ∨ ∃ xs, os[o]? = some (.frz T xs) ∧ xs.length = n
/-- A row of one's own in that state. -/
def isRH (os : List Ob) (o : Nat) (T : TypeId) (ver n : Nat) : Prop :=
  (∃ md xs, os[o]? = some (.row T md ver xs) ∧ xs.length = n) ∨ (∃ md xs i j, os[o]? = some (.hole T md ver xs i j) ∧ xs.length = n) ∨
    (∃ K md es, os[o]? = some (.map K T md ver es) ∧ es.length ≤ n) ∨ ∃ K md es i, os[o]? = some (.maph K T md ver es i) ∧ es.length ≤ n
/-- A slice value out of one that stands in a cell. -/
def subV (k : Nat) (h : Value) (lo n : Nat) (v : Value) : Prop :=
  ∃ a m cap, h = .slice a m cap ∧ lo + n ≤ m ∧ v = .slice (if cap = lo then a else a.map (·.add (lo * k))) n (cap - lo)
/-- Later objects. -/
structure Later (g : Gh) (os : List Ob) (g' : Gh) (os' : List Ob) : Prop where
  ext : ∀ (o : Nat) v, g.η[o]? = some v → g'.η[o]? = some v
  dead : ∀ o, o < g.η.length → os[o]? = some .dead → os'[o]? = some .dead
  r3 : ∀ o T n, o < g.η.length → isR3 os' o T n → isR3 os o T n
  rh : ∀ o T ver' n, o < g.η.length → isRH os' o T ver' n → ∃ ver, ver ≤ ver' ∧ isRH os o T ver n ∧ (ver' = ver → g'.ν o = g.ν o)

section
variable (tt)
inductive RepC (w : World) (S : Nat → Prop) (g : Gh) (os : List Ob) : Value → C → Prop
  | undef (v : Value) : RepC w S g os v .undef
  | unw : RepC w S g os Go.undef .unw
  | d (v : Value) (x : D) (h : Rep tt w S v x) : RepC w S g os v (.d x)
  | cap0 (a : Option Addr) : RepC w S g os (.slice a 0 0) .cap0
  | full (a : Option Addr) (T : TypeId) (xs : List (List D)) (n : Nat) (hn : n = xs.length) (h : Rep tt w S (.slice a n n) (.list T xs)) : RepC w S g os (.slice a n n) (.full T xs)
  | row (v : Value) (o : Nat) (ho : o < g.η.length) (h : os[o]? ≠ some .dead → g.η[o]? = some v) (h1 : v.oneCell' = true) : RepC w S g os v (.row o)
  | nst (v : Value) (e : TypeId) (o ver i off : Nat) (ho : o < g.η.length) (h : ∀ T ver' n, isRH os o T ver' n → ver ≤ ver' ∧ (ver' = ver → v = g.ν o i off ∧ i < n ∧ ∃ ti, tt T = some ti ∧ ti.cells[off]? = some (.list e))) (h1 : v.oneCell' = true) : RepC w S g os v (.nst e o ver i off)
  | nsl (v : Value) (e : TypeId) (o ver i off lo n : Nat) (ho : o < g.η.length) (h : ∀ T ver' m, isRH os o T ver' m → ver ≤ ver' ∧ (ver' = ver → (∃ te, tt e = some te ∧ subV te.cells.length (g.ν o i off) lo n v) ∧ i < m ∧ ∃ ti, tt T = some ti ∧ ti.cells[off]? = some (.list e))) (h1 : v.oneCell' = true) : RepC w S g os v (.nsl e o ver i off lo n)
  | ref (o off b : Nat) (h : g.η[o]? = some (.pointer (some ⟨b, 0, none⟩))) : RepC w S g os (.pointer (some ⟨b, off, none⟩)) (.ref o off)
  | lp (ks : List CK) (ds : List D) (off b o2 : Nat) (vs : Nat → Value) (hS : S b) (hf : fitsAll ks ds)
      (hc : ∀ j, j < ks.length → w.cell? ⟨b, o2 + j, none⟩ = some (vs j)) (hr : ∀ j, j < ks.length → Rep tt w S (vs j) (ds.getD j .z)) : RepC w S g os (.pointer (some ⟨b, o2 + off, none⟩)) (.lp ks ds off)
  | rp (o i off b p : Nat) (ho : o < g.η.length) (h : ∀ n T, isR3 os o T n → i < n ∧ ∃ ti o2 m cap, tt T = some ti ∧ g.η[o]? = some (.slice (some ⟨b, o2, none⟩) m cap) ∧ p = o2 + (i * ti.cells.length + off)) : RepC w S g os (.pointer (some ⟨b, p, none⟩)) (.rp o i off)
  | np (e : TypeId) (o ver i off j f b p : Nat) (ho : o < g.η.length) (h : ∀ T ver' n, isRH os o T ver' n → ver ≤ ver' ∧ (ver' = ver → i < n ∧ (∃ ti, tt T = some ti ∧ ti.cells[off]? = some (.list e)) ∧ ∃ te m cap, tt e = some te ∧ g.ν o i off = .slice (some ⟨b, 0, none⟩) m cap ∧ j < m ∧ p = j * te.cells.length + f)) : RepC w S g os (.pointer (some ⟨b, p, none⟩)) (.np e o ver i off j f)
  | func (f : FuncId) (caps : List C) (vs : Array Value) (hl : vs.size = caps.length) (h : ∀ i, i < caps.length → RepC w S g os (vs.getD i Go.undef) (caps.getD i .undef)) : RepC w S g os (.func (.func f) #[] vs) (.func f caps)
  | nilF : RepC w S g os .nilFunc .nilF
  | zed (v : Value) (h : v.oneCell' = true) : RepC w S g os v .zed
  | agg (cs : List C) (vs : Array Value) (hl : vs.size = cs.length) (h : ∀ i, i < cs.length → RepC w S g os (vs.getD i Go.undef) (cs.getD i .undef)) : RepC w S g os (.agg vs) (.agg cs)
  | tuple (cs : List C) (vs : Array Value) (hl : vs.size = cs.length) (h : ∀ i, i < cs.length → RepC w S g os (vs.getD i Go.undef) (cs.getD i .undef)) : RepC w S g os (.tuple vs) (.tuple cs)
  | mp (o b : Nat) (h : g.η[o]? = some (.map (some b))) : RepC w S g os (.map (some b)) (.mp o)
end

theorem RepC.mono {w w' : World} {S S' : Nat → Prop} {g g' : Gh} {os os' : List Ob} (hS : ∀ b, S b → S' b ∧ w'.heap[b]? = w.heap[b]?) (hl : Later g os g' os') {v : Value} {c : C} (h : RepC tt w S g os v c) : RepC tt w' S' g' os' v c := by
  have lt : ∀ {o : Nat}, o < g.η.length → o < g'.η.length := fun {o} ho => by
    have := hl.ext o (g.η[o]'ho) (by simp [ho])
    exact (List.getElem?_eq_some_iff.1 this).1
  induction h with
  | undef v => exact .undef v
  | unw => exact .unw
  | d v x h => exact .d v x (h.mono hS)
  | cap0 a => exact .cap0 a
  | full a T xs n hn h => exact .full a T xs n hn (h.mono hS)
  | row v o ho h h1 => exact .row v o (lt ho) (fun hx => hl.ext o v (h fun hd => hx (hl.dead o ho hd))) h1
  | nst v e o ver i off ho h h1 =>
    refine .nst v e o ver i off (lt ho) (fun T ver' n hx => ?_) h1
    obtain ⟨ver1, h2, h3, h4⟩ := hl.rh o T ver' n ho hx
    obtain ⟨h5, h6⟩ := h T ver1 n h3
    refine ⟨by omega, fun he => ?_⟩
    have h7 : ver1 = ver := by omega
    rw [h4 (by omega)]
    exact h6 h7
  | nsl v e o ver i off lo n ho h h1 =>
    refine .nsl v e o ver i off lo n (lt ho) (fun T ver' m hx => ?_) h1
    obtain ⟨ver1, h2, h3, h4⟩ := hl.rh o T ver' m ho hx
    obtain ⟨h5, h6⟩ := h T ver1 m h3
    refine ⟨by omega, fun he => ?_⟩
    have h7 : ver1 = ver := by omega
    rw [h4 (by omega)]
    exact h6 h7
  | rp o i off b p ho h =>
    refine .rp o i off b p (lt ho) (fun n T hx => ?_)
    obtain ⟨h1, ti, o2, m, cap, h2, h3, h4⟩ := h n T (hl.r3 o T n ho hx)
    exact ⟨h1, ti, o2, m, cap, h2, hl.ext _ _ h3, h4⟩
  | np e o ver i off j f b p ho h =>
    refine .np e o ver i off j f b p (lt ho) (fun T ver' n hx => ?_)
    obtain ⟨ver1, h2, h3, h4⟩ := hl.rh o T ver' n ho hx
    obtain ⟨h5, h6⟩ := h T ver1 n h3
    refine ⟨by omega, fun he => ?_⟩
    have h7 : ver1 = ver := by omega
    rw [h4 (by omega)]
    exact h6 h7
  | ref o off b h => exact .ref o off b (hl.ext _ _ h)
  | lp ks ds off b o2 vs hSb hf hc hr => exact .lp ks ds off b o2 vs (hS b hSb).1 hf (fun j hj => (cell_same (hS b hSb).2).trans (hc j hj)) (fun j hj => (hr j hj).mono hS)
  | func f caps vs hl' _ ih => exact .func f caps vs hl' ih
  | nilF => exact .nilF
  | zed v h => exact .zed v h
  | agg cs vs hl' _ ih => exact .agg cs vs hl' ih
  | tuple cs vs hl' _ ih => exact .tuple cs vs hl' ih
  | mp o b h => exact .mp o b (hl.ext _ _ h)

/-! ### What is owned -/
section
variable (tt)
/-- A row of one's own, but for some cells. -/
def RowX (w : World) (S : Nat → Prop) (sk : Nat → Nat → Prop) (md : Md) (v : Value) (T : TypeId) (xs : List (List D)) (φ : Nat → Prop) (ν : Nat → Nat → Value) : Prop :=
  ∃ a cap ti, v = .slice a xs.length cap ∧ tt T = some ti ∧ dataKs ti.cells = true ∧ 0 < ti.cells.length ∧ (∀ i, i < xs.length → fitsAll ti.cells (xs.getD i [])) ∧ xs.length ≤ cap ∧ xs.length ≤ big ∧
    (0 < cap → ∃ (b : Nat) (vs : Array Value) (φs : Nat → Nat → Nat → Prop), a = some ⟨b, 0, none⟩ ∧ w.heap[b]? = some (.cells vs T (0, 0)) ∧ vs.size = cap * ti.cells.length ∧ φ b ∧
      (∀ i j x, i < xs.length → j < ti.cells.length → ¬ sk i j → φs i j x → φ x ∧ x ≠ b) ∧
      (∀ i j i' j' x, i < xs.length → j < ti.cells.length → i' < xs.length → j' < ti.cells.length → ¬ sk i j → ¬ sk i' j' → φs i j x → φs i' j' x → i = i' ∧ j = j') ∧
      (∀ i j, i < xs.length → j < ti.cells.length → ¬ sk i j → RepW tt w S md (vs.getD (i * ti.cells.length + j) Go.undef) ((xs.getD i []).getD j .z) (φs i j)) ∧
      ∀ i j e, i < xs.length → ti.cells[j]? = some (.list e) → vs.getD (i * ti.cells.length + j) Go.undef = ν i j ∧ (ν i j).oneCell' = true)
/-- A map, but for some entries. -/
def MapX (w : World) (S : Nat → Prop) (sk : Nat → Prop) (md : Md) (v : Value) (K V : TypeId) (es : List (D × D)) (φ : Nat → Prop) (ν : Nat → Nat → Value) : Prop :=
  ∃ (b : Nat) (ents : Array MapEntry) (clock : Nat) (ck cv : CK) (φs : Nat → Nat → Prop), v = .map (some b) ∧ w.heap[b]? = some (.map ents clock) ∧ mapOK tt K V = some (ck, cv) ∧ φ b ∧ ents.size = es.length ∧
    (∀ i x, i < es.length → ¬ sk i → φs i x → φ x ∧ x ≠ b) ∧
    (∀ i i' x, i < es.length → i' < es.length → ¬ sk i → ¬ sk i' → φs i x → φs i' x → i = i') ∧
    ∀ i e, es[i]? = some e → ∃ m, ents[i]? = some m ∧ ck.fits e.1 ∧ cv.fits e.2 ∧ Rep tt w S m.key e.1 ∧ (¬ sk i → RepW tt w S md m.val e.2 (φs i)) ∧ ν i 0 = m.val ∧ m.val.oneCell' = true
def RepO (w : World) (S : Nat → Prop) (g : Gh) (os : List Ob) (o : Nat) : Ob → Value → Prop
  | .box cs, v => ∃ b vs T, v = .pointer (some ⟨b, 0, none⟩) ∧ w.heap[b]? = some (.cells vs T (0, 0)) ∧ vs.size = cs.length ∧ (∀ i, i < cs.length → RepC tt w S g os (vs.getD i Go.undef) (cs.getD i .undef)) ∧ (∀ i, i < cs.length → (vs.getD i Go.undef).oneCell' = true) ∧ g.φ o b
  | .row T md _ xs, v => RowX tt w S (fun _ _ => False) md v T xs (g.φ o) (g.ν o)
  | .hole T md _ xs i0 j0, v => RowX tt w S (fun i j => i = i0 ∧ j = j0) md v T xs (g.φ o) (g.ν o)
  | .frz T xs, v => Rep tt w S v (.list T xs)
  | .map K V md _ es, v => MapX tt w S (fun _ => False) md v K V es (g.φ o) (g.ν o)
  | .maph K V md _ es i, v => MapX tt w S (fun k => k = i) md v K V es (g.φ o) (g.ν o)
  | .dead, _ => True
end

/-- What stands in the package's own variables. -/
structure Tabs where
  gs : Nat → Prop
  ok : World → Prop
  same : ∀ w w' : World, (∀ b, gs b → w'.heap[b]? = w.heap[b]?) → ok w → ok w'
/-- How a call began. -/
structure Ctx where
  T : Tabs
  S0 : Nat → Prop
  X : Nat → Prop
  w0 : World
  /-- The calls that the function has deferred. -/
  ds : List Deferred := []
/-- The blocks of the first so many objects. -/
def Tracked (g : Gh) (n b : Nat) : Prop := ∃ o, o < n ∧ g.φ o b
def Now (c : Ctx) (w : World) (g : Gh) (n : Nat) (b : Nat) : Prop :=
  c.S0 b ∨ ((c.w0.heap.size ≤ b ∨ c.X b) ∧ b < w.heap.size ∧ ¬ Tracked g n b)
structure Kept (X : Nat → Prop) (w0 w : World) : Prop where
  os : w.os = w0.os
  tape : w.tape = w0.tape
  output : w.output = w0.output
  size : w0.heap.size ≤ w.heap.size
  block : ∀ b, b < w0.heap.size → ¬ X b → w.heap[b]? = w0.heap[b]?
theorem Kept.refl (X : Nat → Prop) (w : World) : Kept X w w := ⟨rfl, rfl, rfl, Nat.le_refl _, fun _ _ _ => rfl⟩
structure Inv (tt : TypeId → Option TI) (c : Ctx) (w : World) (g : Gh) (os : List Ob) : Prop where
  len : g.η.length = os.length
  ob : ∀ (o : Nat) ob v, os[o]? = some ob → g.η[o]? = some v → RepO tt w (Now c w g os.length) g os o ob v
  dj : ∀ (o o' : Nat) b, o < os.length → o' < os.length → g.φ o b → g.φ o' b → o = o'
  own : ∀ o b, o < os.length → g.φ o b → (c.w0.heap.size ≤ b ∨ c.X b) ∧ b < w.heap.size
  kept : Kept c.X c.w0 w
  s0 : ∀ b, c.S0 b → b < c.w0.heap.size ∧ ¬ c.X b
  tab : c.T.ok c.w0 ∧ ∀ b, c.T.gs b → c.S0 b

theorem Inv.withDs {tt : TypeId → Option TI} {c : Ctx} {w : World} {g : Gh} {os : List Ob} (h : Inv tt c w g os) (ds : List Deferred) : Inv tt { c with ds := ds } w g os :=
  ⟨h.len, h.ob, h.dj, h.own, h.kept, h.s0, h.tab⟩
end Go.Proofs.EN
