/- Contracts of functions of this program, by the evaluator EN. No conditions but those that each theorem states. -/
import Derived.Calls
import Derived.LoopN
import Derived.StillTail
/- The abstract evaluator EN: values, objects, evaluation of Go.Code in continuation style. Memory stands in it as trees: slices that are only read are lists, rows of one's own are objects. -/
namespace Go.Proofs.EN
open Go
noncomputable section

abbrev Str := List UInt8

/-- Plain data. -/
inductive D where
  | z
  | bool (b : Bool)
  | int (k : IntKind) (n : Int)
  | str (s : Str)
  | list (T : TypeId) (xs : List (List D))
  | iface (t : TypeId) (x : D)
  /-- A struct of numbers, texts and bools in an interface value. -/
  | ifaceS (t : TypeId) (ds : List D)
  | nilI
  /-- An interface value of which is known whether it is nil. -/
  | errv (b : Bool)
instance : Inhabited D := ⟨.z⟩

/-- Kinds of cells. -/
inductive CK where
  | bool | int (k : IntKind) | str | list (e : TypeId) | iface | other
instance : Inhabited CK := ⟨.other⟩

def ikBeq : IntKind → IntKind → Bool
  | .i8, .i8 | .i16, .i16 | .i32, .i32 | .i64, .i64 | .u8, .u8 | .u16, .u16 | .u32, .u32 | .u64, .u64 => true
  | _, _ => false
def CK.beq : CK → CK → Bool
  | .bool, .bool => true
  | .int a, .int b => ikBeq a b
  | .str, .str => true
  | .list a, .list b => Nat.beq a b
  | .iface, .iface => true
  | .other, .other => true
  | _, _ => false
def ksBeq : List CK → List CK → Bool
  | [], [] => true
  | a :: x, b :: y => a.beq b && ksBeq x y
  | _, _ => false

def getB : D → Bool | .bool b => b | _ => false
def getI : D → Int | .int _ n => n | _ => 0
def getS : D → Str | .str s => s | _ => []
def getL : D → List (List D) | .list _ xs => xs | _ => []
def ifI (t : TypeId) : D → Int | .iface u x => bif Nat.beq u t then getI x else 0 | _ => 0
def ifS (t : TypeId) : D → Str | .iface u x => bif Nat.beq u t then getS x else [] | _ => []
def ifSs (t : TypeId) : D → List D | .ifaceS u ds => bif Nat.beq u t then ds else [] | _ => []
def isI : D → Bool | .nilI => true | .iface _ _ => true | .ifaceS _ _ => true | _ => false
def ifIs (t : TypeId) : D → Bool | .iface u _ => Nat.beq u t | .ifaceS u _ => Nat.beq u t | _ => false

/-- A cell's value is of its kind. -/
def CK.norm : CK → D → D
  | .bool, d => .bool (getB d)
  | .int k, d => .int k (getI d)
  | .str, d => .str (getS d)
  | .list e, d => .list e (getL d)
  | _, d => d
def CK.zero : CK → D
  | .bool => .bool false
  | .int k => .int k 0
  | .str => .str []
  | .list e => .list e []
  | .iface => .nilI
  | .other => .z
def CK.data : CK → Bool
  | .other => false
  | _ => true
def CK.scalar : CK → Bool
  | .bool => true | .int _ => true | .str => true
  | _ => false
def CK.isL : CK → Bool
  | .list _ => true
  | _ => false
def CK.fits : CK → D → Prop
  | .bool, d => ∃ b, d = .bool b
  | .int k, d => ∃ n, d = .int k n
  | .str, d => ∃ s, d = .str s
  | .list e, d => ∃ xs, d = .list e xs
  | .iface, d => d = .nilI ∨ (∃ t x, d = .iface t x) ∨ (∃ t ds, d = .ifaceS t ds) ∨ ∃ b, d = .errv b
  | .other, _ => False
def fitsAll : List CK → List D → Prop
  | [], [] => True
  | k :: ks, d :: ds => k.fits d ∧ fitsAll ks ds
  | _, _ => False

/-- A type's underlying form, as far as the evaluator asks. -/
inductive UK where
  | bool | int (k : IntKind) | str | slice (e : TypeId) | struct (fs : List (Nat × TypeId)) | ptr (e : TypeId) | func | map (k v : TypeId) | iface | tuple (ts : List TypeId)
instance : Inhabited UK := ⟨.bool⟩
structure TI where
  uk : UK
  cells : List CK
  bytes : Nat
instance : Inhabited TI := ⟨⟨.bool, [], 0⟩⟩

/-- How the lists in a row's cells are owned: not at all and from below so many levels; all the way down. -/
inductive Md where
  | lv (n : Nat)
  | deep
instance : Inhabited Md := ⟨.deep⟩
def Md.up : Md → Md
  | .lv n => .lv (n + 1)
  | .deep => .deep
def Md.beq : Md → Md → Bool
  | .lv a, .lv b => Nat.beq a b
  | .deep, .deep => true
  | _, _ => false
def Md.isZ : Md → Bool
  | .lv 0 => true
  | _ => false
def Md.min : Md → Md → Md
  | .deep, m => m
  | m, .deep => m
  | .lv a, .lv b => bif Nat.ble a b then .lv a else .lv b
def Md.le : Md → Md → Bool
  | _, .deep => true
  | .deep, _ => false
  | .lv a, .lv b => Nat.ble a b

/-- Values of the evaluator. -/
inductive C where
  | undef
  | unw
  | d (x : D)
  | cap0
  | full (T : TypeId) (xs : List (List D))
  | row (o : Nat)
  /-- A slice that stands in a cell of a row of one's own; and what lies in it from `lo` on, so many. -/
  | nst (e : TypeId) (o ver i off : Nat)
  | nsl (e : TypeId) (o ver i off lo n : Nat)
  | ref (o off : Nat)
  | lp (ks : List CK) (ds : List D) (off : Nat)
  | rp (o i off : Nat)
  /-- A pointer into a slice that stands in a cell of a row of one's own. -/
  | np (e : TypeId) (o ver i off j f : Nat)
  | func (f : FuncId) (caps : List C)
  | nilF
  | zed
  | agg (cs : List C)
  | tuple (cs : List C)
  | mp (o : Nat)
instance : Inhabited C := ⟨.undef⟩

/-- What the call owns. -/
inductive Ob where
  | box (cs : List C)
  | row (T : TypeId) (md : Md) (ver : Nat) (xs : List (List D))
  /-- A row that is plain data by now. -/
  | frz (T : TypeId) (xs : List (List D))
  /-- A row one of whose cells is somewhere else now. -/
  | hole (T : TypeId) (md : Md) (ver : Nat) (xs : List (List D)) (i off : Nat)
  /-- A map; the slices in it are owned as its way says. -/
  | map (K V : TypeId) (md : Md) (ver : Nat) (es : List (D × D))
  /-- A map one of whose slices is somewhere else now. -/
  | maph (K V : TypeId) (md : Md) (ver : Nat) (es : List (D × D)) (i : Nat)
  | dead
instance : Inhabited Ob := ⟨.dead⟩

/-- What is said of the end. -/
abbrev R := Prop
abbrev Sum := List C → List Ob → (C → List Ob → R) → (C → List Ob → R) → R

/-- Of the whole program. -/
structure Base where
  tt : TypeId → Option TI
  /-- The parts of a call's results. -/
  tup : TypeId → Option (List TypeId)
  W : FuncId → Sum
  /-- 1: rows among the arguments stay the caller's, and what comes back shares nothing with them. 2: rows among the arguments are lent. -/
  mode : FuncId → Nat
structure Env where
  B : Base
  /-- Regions that draw their order: how many operations the head has. -/
  draw : Nat → Option Nat
  live : Nat → Option (List Nat)
  /-- How rows are owned from a loop's head on. -/
  cap : Md
  /-- Are rows handed back as rows? -/
  own : Bool
  np : Nat
  nt : Nat

structure St where
  tmps : List (Nat × C)
  objs : List Ob

inductive Ex where
  | normal | exit (id : Nat) | ret | panic (c : C)

/-- Bounds of what is made: lists and texts are never longer. -/
def big : Nat := 4294967296

def ofV : Value → C
  | .bool b => .d (.bool b)
  | .int k n => .d (.int k n)
  | .string s => bif Nat.ble s.data.toList.length 65536 then .d (.str s.data.toList) else .undef
  | .slice none 0 0 => .cap0
  | .nilIface => .d .nilI
  | .nilFunc => .nilF
  | _ => .undef
def look (t : Nat) (ts : List (Nat × C)) : C := List.rec .undef (fun p _ ih => match p with | (i, c) => bif Nat.beq i t then c else ih) ts
theorem look_nil (t : Nat) : look t [] = .undef := rfl
theorem look_cons (t i : Nat) (c : C) (r : List (Nat × C)) : look t ((i, c) :: r) = bif Nat.beq i t then c else look t r := rfl
def St.ev (s : St) : Operand → C
  | .tmp t => look t s.tmps
  | .const v => ofV v
  | .func f => .func f []
  | .global _ => .undef
def St.put (nt : Nat) (s : St) (dst : Option Tmp) (c : C) : St :=
  match dst with
  | some t => bif Nat.blt t nt then ⟨(t, c) :: s.tmps, s.objs⟩ else s
  | none => s

/-! ### What is written out before one goes on -/
def sqNat {A : Type} (n : Nat) : (Nat → A) → A := Nat.rec (fun K => K 0) (fun _ ih K => ih fun n => K (n + 1)) n
def C.sq0 {A : Type} (c : C) (K : C → A) : A :=
  match c with
  | .undef => K .undef
  | .unw => K .unw
  | .d x => K (.d x)
  | .cap0 => K .cap0
  | .full T xs => K (.full T xs)
  | .row o => sqNat o fun o => K (.row o)
  | .nst e o ver i off => sqNat o fun o => K (.nst e o ver i off)
  | .nsl e o ver i off lo n => sqNat o fun o => K (.nsl e o ver i off lo n)
  | .ref o off => sqNat o fun o => K (.ref o off)
  | .lp ks ds off => K (.lp ks ds off)
  | .rp o i off => sqNat o fun o => K (.rp o i off)
  | .np e o ver i off j f => sqNat o fun o => K (.np e o ver i off j f)
  | .func f cs => K (.func f cs)
  | .nilF => K .nilF
  | .zed => K .zed
  | .agg cs => K (.agg cs)
  | .tuple cs => K (.tuple cs)
  | .mp o => sqNat o fun o => K (.mp o)
def sqL0 {A : Type} (cs : List C) : (List C → A) → A := List.rec (fun K => K []) (fun c _ ih K => C.sq0 c fun c => ih fun r => K (c :: r)) cs
def C.sq1 {A : Type} (c : C) (K : C → A) : A :=
  match c with
  | .undef => K .undef
  | .unw => K .unw
  | .d x => K (.d x)
  | .cap0 => K .cap0
  | .full T xs => K (.full T xs)
  | .row o => sqNat o fun o => K (.row o)
  | .nst e o ver i off => sqNat o fun o => K (.nst e o ver i off)
  | .nsl e o ver i off lo n => sqNat o fun o => K (.nsl e o ver i off lo n)
  | .ref o off => sqNat o fun o => K (.ref o off)
  | .lp ks ds off => K (.lp ks ds off)
  | .rp o i off => sqNat o fun o => K (.rp o i off)
  | .np e o ver i off j f => sqNat o fun o => K (.np e o ver i off j f)
  | .func f cs => sqL0 cs fun cs => K (.func f cs)
  | .nilF => K .nilF
  | .zed => K .zed
  | .agg cs => sqL0 cs fun cs => K (.agg cs)
  | .tuple cs => sqL0 cs fun cs => K (.tuple cs)
  | .mp o => sqNat o fun o => K (.mp o)
def sqL1 {A : Type} (cs : List C) : (List C → A) → A := List.rec (fun K => K []) (fun c _ ih K => C.sq1 c fun c => ih fun r => K (c :: r)) cs
def C.sq {A : Type} (c : C) (K : C → A) : A :=
  match c with
  | .undef => K .undef
  | .unw => K .unw
  | .d x => K (.d x)
  | .cap0 => K .cap0
  | .full T xs => K (.full T xs)
  | .row o => sqNat o fun o => K (.row o)
  | .nst e o ver i off => sqNat o fun o => K (.nst e o ver i off)
  | .nsl e o ver i off lo n => sqNat o fun o => K (.nsl e o ver i off lo n)
  | .ref o off => sqNat o fun o => K (.ref o off)
  | .lp ks ds off => K (.lp ks ds off)
  | .rp o i off => sqNat o fun o => K (.rp o i off)
  | .np e o ver i off j f => sqNat o fun o => K (.np e o ver i off j f)
  | .func f cs => sqL1 cs fun cs => K (.func f cs)
  | .nilF => K .nilF
  | .zed => K .zed
  | .agg cs => sqL1 cs fun cs => K (.agg cs)
  | .tuple cs => sqL1 cs fun cs => K (.tuple cs)
  | .mp o => sqNat o fun o => K (.mp o)
def sqL {A : Type} (cs : List C) : (List C → A) → A := List.rec (fun K => K []) (fun c _ ih K => C.sq c fun c => ih fun r => K (c :: r)) cs
def Md.sq {A : Type} (m : Md) (K : Md → A) : A :=
  match m with
  | .lv n => K (.lv n)
  | .deep => K .deep
def Ob.sq {A : Type} (o : Ob) (K : Ob → A) : A :=
  match o with
  | .box cs => sqL cs fun cs => K (.box cs)
  | .row T md ver xs => md.sq fun md => K (.row T md ver xs)
  | .frz T xs => K (.frz T xs)
  | .hole T md ver xs i off => md.sq fun md => K (.hole T md ver xs i off)
  | .map k v md ver es => md.sq fun md => K (.map k v md ver es)
  | .maph k v md ver es i => md.sq fun md => K (.maph k v md ver es i)
  | .dead => K .dead
def sqO {A : Type} (os : List Ob) : (List Ob → A) → A := List.rec (fun K => K []) (fun o _ ih K => o.sq fun o => ih fun r => K (o :: r)) os
def sqT {A : Type} (ts : List (Nat × C)) : (List (Nat × C) → A) → A := List.rec (fun K => K []) (fun p _ ih K => match p with | (t, c) => c.sq fun c => ih fun r => K ((t, c) :: r)) ts
def St.sq {A : Type} (s : St) (K : St → A) : A :=
  match s with
  | ⟨ts, os⟩ => sqT ts fun ts => sqO os fun os => K ⟨ts, os⟩
/-- One more value, one more state. -/
def St.putK {A : Type} (nt : Nat) (s : St) (dst : Option Tmp) (c : C) (K : St → A) : A :=
  match s with
  | ⟨ts, os⟩ => match dst with
    | some t => bif Nat.blt t nt then c.sq fun c => sqO os fun os => K ⟨(t, c) :: ts, os⟩ else sqO os fun os => K ⟨ts, os⟩
    | none => sqO os fun os => K ⟨ts, os⟩

def bsel (b : Bool) (x y : R) : R :=
  match b with
  | true => x
  | false => y

def cellsC : C → List C
  | .agg cs => cs
  | c => [c]
/-- What may lie in one cell. -/
def C.one : C → Bool
  | .undef => false
  | .unw => false
  | .agg _ => false
  | .tuple _ => false
  | .nst _ _ _ _ _ => false
  | .nsl _ _ _ _ _ _ _ => false
  | .np _ _ _ _ _ _ _ => false
  | _ => true
def C.isAgg : C → Bool
  | .agg _ => true
  | _ => false
def UK.isAgg : UK → Bool
  | .struct _ => true
  | _ => false
def mkC (ag : Bool) (cs : List C) : Option C :=
  bif ag then some (.agg cs) else match cs with
    | [c] => some c
    | _ => none
/-- Cells of a run of plain data, by their kinds, from a place on. -/
def kCells : List CK → List D → Nat → List C
  | [], _, _ => []
  | k :: ks, ds, i => .d (k.norm (ds.getD i .z)) :: kCells ks ds (i + 1)
/-- The same of a row's element; slices of one's own are told by their place. -/
def rCell (o ver i : Nat) (z : Bool) (k : CK) (ds : List D) (j : Nat) : C :=
  match k, z with
  | .list e, false => .nst e o ver i j
  | k, _ => .d (k.norm (ds.getD j .z))
def rCells (o ver i : Nat) (z : Bool) : List CK → List D → Nat → List C
  | [], _, _ => []
  | k :: ks, ds, j => rCell o ver i z k ds j :: rCells o ver i z ks ds (j + 1)
def zeroC : CK → C
  | .list _ => .cap0
  | .other => .zed
  | k => .d k.zero

/-- The slice that stands in a row's cell. -/
def nstF (xs : List (List D)) (i off : Nat) : List (List D) := getL ((xs.getD i []).getD off .z)
/-- The slice that stands in a map's entry. -/
def mapF (es : List (D × D)) (i : Nat) : List (List D) := getL (es.getD i (.z, .z)).2
def nstL (xs : List (List D)) (i off lo n : Nat) : List (List D) := ((nstF xs i off).take (lo + n)).drop lo

/-- A cell as plain data of a kind; a row that is taken so is nobody's any more. -/
def toD (k : CK) (c : C) (os : List Ob) : Option (D × List Ob) :=
  match k, c with
  | .bool, .d (.bool b) => some (.bool b, os)
  | .int j, .d (.int i n) => bif ikBeq i j then some (.int i n, os) else none
  | .str, .d (.str s) => some (.str s, os)
  | .list e, .d (.list T xs) => bif Nat.beq T e then some (.list T xs, os) else none
  | .list e, .full T xs => bif Nat.beq T e then some (.list T xs, os) else none
  | .list e, .cap0 => some (.list e [], os)
  | .list e, .row o => match os.getD o .dead with
    | .row T _ _ xs => bif Nat.beq T e then some (.list T xs, os.set o (.frz T xs)) else none
    | .frz T xs => bif Nat.beq T e then some (.list T xs, os) else none
    | _ => none
  | .iface, .d .nilI => some (.nilI, os)
  | .iface, .d (.errv b) => some (.errv b, os)
  | .iface, .d (.iface t x) => some (.iface t x, os)
  | .iface, .d (.ifaceS t x) => some (.ifaceS t x, os)
  | _, _ => none
def toDs : List CK → List C → List Ob → Option (List D × List Ob)
  | [], [], os => some ([], os)
  | k :: ks, c :: cs, os => match toD k c os with
    | some (d, os') => match toDs ks cs os' with
      | some (ds, os'') => some (d :: ds, os'')
      | none => none
    | none => none
  | _, _, _ => none
/-- The same, a row being only looked at. -/
def peek (k : CK) (c : C) (os : List Ob) : Option D :=
  match k, c with
  | .list e, .nst e' o ver i off => match os.getD o .dead with
    | .row _ md ver' xs => bif Nat.beq e e' && (Nat.beq ver ver' && !md.isZ) then some (.list e (nstF xs i off)) else none
    | .map _ _ md ver' es => bif Nat.beq e e' && (Nat.beq ver ver' && (!md.isZ && Nat.beq off 0)) then some (.list e (mapF es i)) else none
    | _ => none
  | .list e, .nsl e' o ver i off lo n => match os.getD o .dead with
    | .row _ md ver' xs => bif Nat.beq e e' && (Nat.beq ver ver' && !md.isZ) then some (.list e (nstL xs i off lo n)) else none
    | _ => none
  | k, c => match toD k c os with
    | some (d, _) => some d
    | none => none
def peeks : List CK → List C → List Ob → Option (List D)
  | [], [], _ => some []
  | k :: ks, c :: cs, os => match peek k c os with
    | some d => match peeks ks cs os with
      | some ds => some (d :: ds)
      | none => none
    | none => none
  | _, _, _ => none

def scalKs : List CK → Bool
  | [] => true
  | k :: ks => k.scalar && scalKs ks
/-- Are there no lists in a type's cells? -/
def flatKs : List CK → Bool
  | [] => true
  | k :: ks => !k.isL && flatKs ks
def flatT (tt : TypeId → Option TI) (T : TypeId) : Bool :=
  match tt T with
  | some ti => flatKs ti.cells
  | none => false
/-- A value taken into a row's cell, as that row owns what lies in its cells. -/
def absorb (tt : TypeId → Option TI) (md : Md) (k : CK) (c : C) (os : List Ob) : Option (D × List Ob) :=
  bif md.isZ then toD k c os else
  match k, c with
  | .list e, .row o => match os.getD o .dead with
    | .row T m _ xs => bif Nat.beq T e && (Md.beq m.up md || flatT tt T) then some (.list T xs, os.set o .dead) else none
    | _ => none
  | .list e, .cap0 => some (.list e [], os)
  | .list _, _ => none
  | k, c => toD k c os
def absorbs (tt : TypeId → Option TI) (md : Md) : List CK → List C → List Ob → Option (List D × List Ob)
  | [], [], os => some ([], os)
  | k :: ks, c :: cs, os => match absorb tt md k c os with
    | some (d, os') => match absorbs tt md ks cs os' with
      | some (ds, os'') => some (d :: ds, os'')
      | none => none
    | none => none
  | _, _, _ => none

/-- A slice's elements, looked at. -/
def elems (e : TypeId) (c : C) (os : List Ob) : Option (List (List D)) :=
  match c with
  | .d (.list T xs) => bif Nat.beq T e then some xs else none
  | .full T xs => bif Nat.beq T e then some xs else none
  | .cap0 => some []
  | .row o => match os.getD o .dead with
    | .row T _ _ xs => bif Nat.beq T e then some xs else none
    | .frz T xs => bif Nat.beq T e then some xs else none
    | _ => none
  | .nst e' o ver i off => match os.getD o .dead with
    | .row _ md ver' xs => bif Nat.beq e' e && (Nat.beq ver ver' && !md.isZ) then some (nstF xs i off) else none
    | .map _ _ md ver' es => bif Nat.beq e' e && (Nat.beq ver ver' && (!md.isZ && Nat.beq off 0)) then some (mapF es i) else none
    | _ => none
  | .nsl e' o ver i off lo n => match os.getD o .dead with
    | .row _ md ver' xs => bif Nat.beq e' e && (Nat.beq ver ver' && !md.isZ) then some (nstL xs i off lo n) else none
    | _ => none
  | _ => none

mutual
def C.refs : C → List Nat
  | .ref o _ => [o]
  | .row o => [o]
  | .nst _ o _ _ _ => [o]
  | .nsl _ o _ _ _ _ _ => [o]
  | .rp o _ _ => [o]
  | .np _ o _ _ _ _ _ => [o]
  | .func _ cs => refsL cs
  | .agg cs => refsL cs
  | .tuple cs => refsL cs
  | .mp o => [o]
  | _ => []
def refsL : List C → List Nat
  | [] => []
  | c :: cs => c.refs ++ refsL cs
end
def Ob.refs : Ob → List Nat
  | .box cs => refsL cs
  | _ => []
def hasN (o : Nat) : List Nat → Bool
  | [] => false
  | x :: xs => bif Nat.beq x o then true else hasN o xs
def idxN (o : Nat) : List Nat → Nat → Option Nat
  | [], _ => none
  | x :: xs, i => bif Nat.beq x o then some i else idxN o xs (i + 1)
def reach (os : List Ob) : Nat → List Nat → List Nat → List Nat
  | 0, _, seen => seen
  | _ + 1, [], seen => seen
  | n + 1, o :: w, seen => bif hasN o seen then reach os n w seen else reach os n (w ++ (os.getD o .dead).refs) (seen ++ [o])
def sqN {A : Type} (ns : List Nat) : (List Nat → A) → A := List.rec (fun K => K []) (fun n _ ih K => sqNat n fun n => ih fun r => K (n :: r)) ns

-- Objects under new numbers.
mutual
def C.ren (m : Nat → Option Nat) : C → C
  | .ref o off => match m o with
    | some j => .ref j off
    | none => .undef
  | .row o => match m o with
    | some j => .row j
    | none => .undef
  | .nst e o ver i off => match m o with
    | some j => .nst e j ver i off
    | none => .undef
  | .nsl e o ver i off lo n => match m o with
    | some j => .nsl e j ver i off lo n
    | none => .undef
  | .rp o i off => match m o with
    | some j => .rp j i off
    | none => .undef
  | .np e o ver i off j f => match m o with
    | some p => .np e p ver i off j f
    | none => .undef
  | .mp o => match m o with
    | some j => .mp j
    | none => .undef
  | .func f cs => .func f (renL m cs)
  | .agg cs => .agg (renL m cs)
  | .tuple cs => .tuple (renL m cs)
  | c => c
def renL (m : Nat → Option Nat) : List C → List C
  | [] => []
  | c :: cs => c.ren m :: renL m cs
end
def Ob.ren (m : Nat → Option Nat) : Ob → Ob
  | .box cs => .box (renL m cs)
  | o => o
def nodup : List Nat → Bool
  | [] => true
  | x :: xs => !hasN x xs && nodup xs
/-- Only these objects, in this order. -/
def pickObs (ks : List Nat) (os : List Ob) : List Nat → List Ob
  | [] => []
  | k :: r => ((os.getD k .dead).ren fun o => idxN o ks 0) :: pickObs ks os r

def upto : Nat → Nat → List Nat
  | 0, _ => []
  | n + 1, i => i :: upto n (i + 1)

/-- At a loop's head: only what is wanted behind it is kept. -/
def keepT (m : Nat → Option Nat) (ts : List (Nat × C)) : List Nat → List (Nat × C)
  | [] => []
  | t :: r => (t, (look t ts).ren m) :: keepT m ts r
def liveRefs (ts : List (Nat × C)) : List Nat → List Nat
  | [] => []
  | t :: r => (look t ts).refs ++ liveRefs ts r
def prefN : List Nat → List Nat → Bool
  | [], _ => true
  | _ :: _, [] => false
  | a :: x, b :: y => Nat.beq a b && prefN x y
def ksBelow (n : Nat) : List Nat → Bool
  | [] => true
  | k :: r => Nat.blt k n && ksBelow n r
def ksOK (n np : Nat) (ks : List Nat) : Bool := nodup ks && (ksBelow n ks && prefN (upto np 0) ks)
/-- What has no room at all is a row of one's own with nothing in it. -/
def dataKs : List CK → Bool
  | [] => true
  | k :: ks => k.data && dataKs ks
def rowT (tt : TypeId → Option TI) (e : TypeId) : Bool :=
  match tt e with
  | some te => dataKs te.cells && Nat.blt 0 te.cells.length
  | none => false
def promC (tt : TypeId → Option TI) (k : CK) (c : C) (os : List Ob) : C × List Ob :=
  match k, c with
  | .list e, .cap0 => bif rowT tt e then (.row os.length, os ++ [.row e .deep 0 []]) else (.cap0, os)
  | _, c => (c, os)
def promCs (tt : TypeId → Option TI) : List CK → List C → List Ob → List C × List Ob
  | k :: ks, c :: cs, os => match promC tt k c os with
    | (c', os') => match promCs tt ks cs os' with
      | (cs', os'') => (c' :: cs', os'')
  | _, cs, os => (cs, os)
/-- Rows are owned less deep. -/
def capOb (tt : TypeId → Option TI) (m : Md) : Ob → Ob
  | .row T md ver xs => bif flatT tt T then .row T md ver xs else .row T (Md.min md m) ver xs
  | o => o
def norm (E : Env) (id : Nat) (s : St) : Option St :=
  match E.live id with
  | none => some s
  | some lv =>
    sqN (reach s.objs 300 (upto E.np 0 ++ liveRefs s.tmps lv) []) fun ks =>
    bif ksOK s.objs.length E.np ks then
      some ⟨keepT (fun o => idxN o ks 0) s.tmps lv, (pickObs ks s.objs ks).map (capOb E.B.tt E.cap)⟩
    else none

/-! ### Operations -/
def bopI (op : BinOp) (k : IntKind) (a b : Int) : Option D :=
  match op with
  | .add => some (.int k (k.wrap (a + b)))
  | .sub => some (.int k (k.wrap (a - b)))
  | .mul => some (.int k (k.wrap (a * b)))
  | .eql => some (.bool (decide (a = b)))
  | .neq => some (.bool (!decide (a = b)))
  | .lss => some (.bool (decide (a < b)))
  | .leq => some (.bool (decide (a ≤ b)))
  | .gtr => some (.bool (decide (b < a)))
  | .geq => some (.bool (decide (b ≤ a)))
  | _ => none
def strLt : Str → Str → Bool
  | _, [] => false
  | [], _ :: _ => true
  | a :: x, b :: y => decide (a < b) || (a == b && strLt x y)
def bopS (op : BinOp) (a b : Str) : Option D :=
  match op with
  | .eql => some (.bool (decide (a = b)))
  | .neq => some (.bool (!decide (a = b)))
  | .lss => some (.bool (strLt a b))
  | _ => none
def lenC (T : TypeId) (E : Env) (c : C) (os : List Ob) : Option Nat :=
  match c, E.B.tt T with
  | .d (.str s), some ⟨.str, _, _⟩ => some s.length
  | c, some ⟨.slice e, _, _⟩ => match elems e c os with
    | some xs => some xs.length
    | none => none
  | _, _ => none

def strOf (xs : List (List D)) : Str := xs.map fun c => UInt8.ofNat (getI (c.getD 0 .z)).toNat

/-- Are structs of numbers, texts and bools alike? -/
def eqCs : List CK → List C → List C → Option Bool
  | [], [], [] => some true
  | .bool :: ks, .d (.bool a) :: xs, .d (.bool b) :: ys => match eqCs ks xs ys with
    | some r => some ((a == b) && r)
    | none => none
  | .int k :: ks, .d (.int i a) :: xs, .d (.int j b) :: ys => bif ikBeq i k && ikBeq j k then match eqCs ks xs ys with
    | some r => some (decide (a = b) && r)
    | none => none
    else none
  | .str :: ks, .d (.str a) :: xs, .d (.str b) :: ys => match eqCs ks xs ys with
    | some r => some (decide (a = b) && r)
    | none => none
  | _, _, _ => none
def evalBin (E : Env) (op : BinOp) (T : TypeId) (x y : C) (Kv : C → R) : R :=
  match x, y with
  | .d (.int k a), .d (.int k' b) => bif ikBeq k k' then
      match op with
      | .quo => 0 < b ∧ Kv (.d (.int k (k.wrap (a.tdiv b))))
      | .rem => 0 < b ∧ Kv (.d (.int k (a.tmod b)))
      | op => match bopI op k a b with
        | some d => Kv (.d d)
        | none => False
    else False
  | .d (.str a), .d (.str b) =>
    match op with
    | .add => a.length + b.length ≤ big ∧ Kv (.d (.str (a ++ b)))
    | op => match bopS op a b with
      | some d => Kv (.d d)
      | none => False
  | .d (.bool a), .d (.bool b) =>
    match E.B.tt T with
    | some ⟨.bool, _, _⟩ => match op with
      | .eql => Kv (.d (.bool (a == b)))
      | .neq => Kv (.d (.bool (!(a == b))))
      | _ => False
    | _ => False
  | .agg xs, .agg ys =>
    match E.B.tt T with
    | some ⟨.struct _, ks, _⟩ => bif scalKs ks then match eqCs ks xs ys with
        | some b => match op with
          | .eql => Kv (.d (.bool b))
          | .neq => Kv (.d (.bool (!b)))
          | _ => False
        | none => False
      else False
    | _ => False
  | _, _ => False

/-- Is it nil? -/
def nilB : C → Option Bool
  | .d .nilI => some true
  | .d (.errv b) => some b
  | .d (.iface _ _) => some false
  | .d (.ifaceS _ _) => some false
  | _ => none
def isNilK : Operand → Bool
  | .const .nilIface => true
  | _ => false
def evalNil (E : Env) (op : BinOp) (T : TypeId) (b : Bool) (Kv : C → R) : R :=
  match E.B.tt T, op with
  | some ⟨.iface, _, _⟩, .eql => Kv (.d (.bool b))
  | some ⟨.iface, _, _⟩, .neq => Kv (.d (.bool (!b)))
  | _, _ => False
/-- Two operands and what is between them. -/
def evalBin2 (E : Env) (op : BinOp) (T : TypeId) (y : Operand) (cx cy : C) (Kv : C → R) : R :=
  bif isNilK y then match nilB cx with
    | some b => evalNil E op T b Kv
    | none => False
  else evalBin E op T cx cy Kv

/-- Is a slice nil? Of one that has elements it is known; of another one it is not. -/
inductive NilP (n : Nat) (K : Bool → R) : Prop where
  | mk (h : ∀ b : Bool, (0 < n → b = false) → K b)
def isNilS : Operand → Bool
  | .const (.slice none 0 0) => true
  | _ => false
def evalNilS (E : Env) (op : BinOp) (T : TypeId) (x : C) (os : List Ob) (Kv : C → R) : R :=
  match E.B.tt T with
  | some ⟨.slice e, _, _⟩ => match elems e x os with
    | some xs => match op with
      | .eql => NilP xs.length fun b => Kv (.d (.bool b))
      | .neq => NilP xs.length fun b => Kv (.d (.bool (!b)))
      | _ => False
    | none => False
  | _ => False
def evalConv (E : Env) (src dst : TypeId) (x : C) (s : St) (Kv : C → R) : R :=
  match E.B.tt src, E.B.tt dst with
  | some ⟨.int _, _, _⟩, some ⟨.int k, _, _⟩ => match x with
    | .d (.int _ n) => Kv (.d (.int k (k.wrap n)))
    | _ => False
  | some ⟨.str, _, _⟩, some ⟨.str, _, _⟩ => match x with
    | .d (.str t) => Kv (.d (.str t))
    | _ => False
  | some ⟨.slice e, _, _⟩, some ⟨.str, _, _⟩ => match E.B.tt e with
    | some ⟨.int .u8, [.int .u8], _⟩ => match elems e x s.objs with
      | some xs => Kv (.d (.str (strOf xs)))
      | none => False
    | _ => False
  | _, _ => False

/-- A slice's elements out of their parts. -/
def putParts (tt : TypeId → Option TI) (md : Md) (ks : List CK) : List (Nat × C) → List Ob → Nat → Option (List (List D) × List Ob)
  | [], os, _ => some ([], os)
  | (i, c) :: r, os, j => bif Nat.beq i j then
      match absorbs tt md ks (cellsC c) os with
      | some (ds, os') => match putParts tt md ks r os' (j + 1) with
        | some (xs, os'') => some (ds :: xs, os'')
        | none => none
      | none => none
    else none
/-- The deepest way in which parts can be owned. -/
def putBest (tt : TypeId → Option TI) (ks : List CK) (ps : List (Nat × C)) (os : List Ob) : Option (Md × List (List D) × List Ob) :=
  match putParts tt .deep ks ps os 0 with
  | some (xs, os') => some (.deep, xs, os')
  | none => match putParts tt (.lv 1) ks ps os 0 with
    | some (xs, os') => some (.lv 1, xs, os')
    | none => match putParts tt (.lv 0) ks ps os 0 with
      | some (xs, os') => some (.lv 0, xs, os')
      | none => none
/-- Cells with some of them set. -/
def setRun {A : Type} : List A → Nat → List A → List A
  | cs, _, [] => cs
  | cs, i, v :: r => setRun (cs.set i v) (i + 1) r
def putFields (E : Env) (fs : List (Nat × TypeId)) : List (Nat × C) → List C → Option (List C)
  | [], cs => some cs
  | (i, c) :: r, cs => match fs[i]? with
    | some (off, T) => match E.B.tt T with
      | some ti => bif Nat.beq (cellsC c).length ti.cells.length && (Nat.ble (off + ti.cells.length) cs.length && (cellsC c).all C.one) then
          putFields E fs r (setRun cs off (cellsC c))
        else none
      | none => none
    | none => none

/-- An argument's cells, if it is data. -/
def argCs (how : Nat) (ti : TI) (c : C) (os : List Ob) : Option (List C × List Ob) :=
  bif dataKs ti.cells && (C.isAgg c == ti.uk.isAgg) then
    (match how with
      | 1 => (match peeks ti.cells (cellsC c) os with
        | some ds => some (ds.map C.d, os)
        | none => none)
      | 2 => bif (cellsC c).all C.one && Nat.beq (cellsC c).length ti.cells.length then some (cellsC c, os) else none
      | _ => (match toDs ti.cells (cellsC c) os with
        | some (ds, os') => some (ds.map C.d, os')
        | none => none))
  else none
/-- The arguments of a call, as the callee takes them: data as data, the rest as it is. -/
def argsOf (E : Env) (how : Nat) (l : List (TypeId × C)) : List Ob → Option (List C × List Ob) := List.rec (fun os => some ([], os)) (fun p _ ih os => match p with
  | (T, c) => match E.B.tt T with
    | none => none
    | some ti =>
      match argCs how ti c os with
      | some (cs1, os') => match mkC ti.uk.isAgg cs1, ih os' with
        | some c', some (cs, os'') => some (c' :: cs, os'')
        | _, _ => none
      | none => bif dataKs ti.cells then none else match ih os with
        | some (cs, os') => some (c :: cs, os')
        | none => none) l
theorem argsOf_nil (E : Env) (how : Nat) (os : List Ob) : argsOf E how [] os = some ([], os) := rfl
theorem argsOf_cons (E : Env) (how : Nat) (T : TypeId) (c : C) (r : List (TypeId × C)) (os : List Ob) : argsOf E how ((T, c) :: r) os = match E.B.tt T with
    | none => none
    | some ti =>
      match argCs how ti c os with
      | some (cs1, os') => match mkC ti.uk.isAgg cs1, argsOf E how r os' with
        | some c', some (cs, os'') => some (c' :: cs, os'')
        | _, _ => none
      | none => bif dataKs ti.cells then none else match argsOf E how r os with
        | some (cs, os') => some (c :: cs, os')
        | none => none := rfl
def argRefs (E : Env) (how : Nat) (l : List (TypeId × C)) : List Nat := List.rec [] (fun p _ ih => (match p with
  | (T, c) => match E.B.tt T with
    | some ti => bif dataKs ti.cells && !Nat.beq how 2 then [] else c.refs
    | none => []) ++ ih) l
def scalT (E : Env) (T : TypeId) : Bool :=
  match E.B.tup T with
  | some ts => ts.all fun t => match E.B.tt t with
    | some ti => scalKs ti.cells
    | none => false
  | none => match E.B.tt T with
    | some ti => scalKs ti.cells
    | none => false
def backM (ks : List Nat) (base : Nat) (j : Nat) : Option Nat :=
  match ks[j]? with
  | some k => some k
  | none => some (base + (j - ks.length))
def setObs (m : Nat → Option Nat) : List Ob → List Nat → List Ob → List Ob
  | os, k :: ks, o :: r => setObs m (os.set k (o.ren m)) ks r
  | os, [], r => os ++ r.map (Ob.ren m)
  | os, _, [] => os

/-- A value that leads nowhere, or to rows of one's own. -/
def scal1 : C → Bool
  | .d (.bool _) => true
  | .d (.int _ _) => true
  | .d (.str _) => true
  | .d (.iface _ _) => true
  | .d (.ifaceS _ _) => true
  | .d (.errv _) => true
  | .d .nilI => true
  | .cap0 => true
  | .row _ => true
  | _ => false
def scal2 : C → Bool
  | .agg cs => cs.all scal1
  | c => scal1 c
def scalC : C → Bool
  | .tuple cs => cs.all scal2
  | c => scal2 c
/-- Objects that share nothing with what is only looked at. -/
def cleanO (tt : TypeId → Option TI) : Ob → Bool
  | .row T md _ _ => flatT tt T || Md.beq md .deep
  | .dead => true
  | _ => false
def Md.down : Md → Md
  | .lv m => .lv (m - 1)
  | .deep => .deep
/-- Slices that stand in a row's cells, taken out for a call; which ones. -/
def openCs (tt : TypeId → Option TI) : List CK → List C → List Ob → List C × List Ob × List (Nat × Nat × Nat × Nat × Nat)
  | k :: ks, c :: cs, os => match k, c with
    | .list e, .cap0 => bif rowT tt e then match openCs tt ks cs (os ++ [.row e .deep 0 []]) with
        | (cs', os', l) => (.row os.length :: cs', os', l)
      else match openCs tt ks cs os with
        | (cs', os', l) => (.cap0 :: cs', os', l)
    | .list _, .nst e o ver i off => match os.getD o .dead with
      | .row T0 md ver' xs => bif Nat.beq ver ver' && (!md.isZ && rowT tt e) then
          match openCs tt ks cs (os.set o (.hole T0 md ver' xs i off) ++ [.row e md.down 0 (nstF xs i off)]) with
          | (cs', os', l) => (.row os.length :: cs', os', (o, os.length, ver', i, off) :: l)
        else match openCs tt ks cs os with
          | (cs', os', l) => (c :: cs', os', l)
      | _ => match openCs tt ks cs os with
        | (cs', os', l) => (c :: cs', os', l)
    | _, c => match openCs tt ks cs os with
      | (cs', os', l) => (c :: cs', os', l)
  | _, cs, os => (cs, os, [])
def openArgs (E : Env) : List (TypeId × C) → List Ob → List (TypeId × C) × List Ob × List (Nat × Nat × Nat × Nat × Nat)
  | [], os => ([], os, [])
  | (T, c) :: r, os => match E.B.tt T with
    | some ti => bif C.isAgg c == ti.uk.isAgg then
        match openCs E.B.tt ti.cells (cellsC c) os with
        | (cs1, os1, l1) => match mkC ti.uk.isAgg cs1 with
          | some c' => match openArgs E r os1 with
            | (r', os2, l2) => ((T, c') :: r', os2, l1 ++ l2)
          | none => match openArgs E r os with
            | (r', os2, l2) => ((T, c) :: r', os2, l2)
      else match openArgs E r os with
        | (r', os2, l2) => ((T, c) :: r', os2, l2)
    | none => match openArgs E r os with
      | (r', os2, l2) => ((T, c) :: r', os2, l2)
/-- What was taken out is put back. -/
def shutObs (l : List (Nat × Nat × Nat × Nat × Nat)) : List Ob → (List Ob → R) → R := List.rec (fun os K => K os) (fun p _ ih os K => match p with
  | (o, m, ver0, i0, off0) => ih os fun os =>
    match os.getD o .dead, os.getD m .dead with
    | .hole T0 md ver xs i off, .row e md' _ ys => bif Md.beq md'.up md then
        (ver = ver0 ∧ i = i0 ∧ off = off0) ∧ K ((os.set o (.row T0 md ver (xs.set i ((xs.getD i []).set off (.list e ys))))).set m .dead)
      else False
    | _, _ => False) l
def evalCall (E : Env) (f : FuncId) (targs : List (TypeId × C)) (caps : List C) (rt : TypeId) (s : St) (Kv Kp : C → St → R) : R :=
  match E.B.mode f with
  | 2 => match openArgs E targs s.objs with
    | (targs', os0, l) => match argsOf E 2 targs' os0 with
      | none => False
      | some (cs, os) => sqN (reach os 300 (argRefs E 2 targs' ++ refsL caps) []) fun ks =>
        bif ksOK os.length 0 ks then
          sqL ((cs ++ caps).map (C.ren fun o => idxN o ks 0)) fun as => sqO (pickObs ks os ks) fun os1 =>
          E.B.W f as os1
            (fun c os' => shutObs l (setObs (backM ks os.length) os ks os') fun os2 => Kv (c.ren (backM ks os.length)) ⟨s.tmps, os2⟩)
            (fun c os' => shutObs l (setObs (backM ks os.length) os ks os') fun os2 => Kp (c.ren (backM ks os.length)) ⟨s.tmps, os2⟩)
        else False
  | how => sqN (reach s.objs 300 (argRefs E 0 targs ++ refsL caps) []) fun ks =>
    match ks.isEmpty && (scalT E rt || Nat.beq how 1) with
    | true => match argsOf E 1 targs s.objs with
      | none => False
      | some (cs, _) => sqL ((cs ++ caps).map (C.ren fun _ => none)) fun as =>
        E.B.W f as []
          (fun c os' => bif scalC c && os'.all (cleanO E.B.tt) then Kv (c.ren (backM [] s.objs.length)) ⟨s.tmps, setObs (backM [] s.objs.length) s.objs [] os'⟩ else False)
          (fun c os' => bif scalC c && os'.all (cleanO E.B.tt) then Kp (c.ren (backM [] s.objs.length)) ⟨s.tmps, setObs (backM [] s.objs.length) s.objs [] os'⟩ else False)
    | false => match argsOf E 0 targs s.objs with
      | none => False
      | some (cs, os) =>
        bif ksOK os.length 0 ks then
          sqL ((cs ++ caps).map (C.ren fun o => idxN o ks 0)) fun as => sqO (pickObs ks os ks) fun os1 =>
          E.B.W f as os1
            (fun c os' => Kv (c.ren (backM ks os.length)) ⟨s.tmps, setObs (backM ks os.length) os ks os'⟩)
            (fun c os' => Kp (c.ren (backM ks os.length)) ⟨s.tmps, setObs (backM ks os.length) os ks os'⟩)
        else False

def isNst : C → Bool
  | .nst _ _ _ _ _ => true
  | .nsl _ _ _ _ _ _ _ => true
  | _ => false
/-- How the lists in a slice's elements are owned, as far as append takes them over; a row that gives them up. -/
def srcMd (fl : Bool) (y : C) (os : List Ob) : Md × List Ob :=
  bif fl then (.deep, os) else
  match y with
  | .cap0 => (.deep, os)
  | .row p => match os.getD p .dead with
    | .row _ md _ _ => (md, os.set p .dead)
    | _ => (.lv 0, os)
  | _ => (.lv 0, os)
def evalAppend (E : Env) (T : TypeId) (x y : C) (s : St) (Kv : C → St → R) : R :=
  match E.B.tt T with
  | some ⟨.slice e, _, _⟩ => match E.B.tt e with
    | some ti => match elems e y s.objs, elems e x s.objs with
      | some ys, some xs =>
        bif dataKs ti.cells && Nat.blt 0 ti.cells.length && Nat.ble ti.bytes 1024 && (flatKs ti.cells || !isNst y) then
          xs.length + ys.length ≤ big ∧
          match srcMd (flatKs ti.cells) y s.objs with
          | (my, os) => match x with
            | .cap0 => Kv (.row os.length) ⟨s.tmps, os ++ [.row e my 0 ys]⟩
            | .full _ _ => match ys with
              | [] => False
              | _ :: _ => Kv (.row os.length) ⟨s.tmps, os ++ [.row e (bif flatKs ti.cells then .deep else .lv 0) 0 (xs ++ ys)]⟩
            | .row o => match os.getD o .dead with
              | .row _ mx _ _ => Kv (.row os.length) ⟨s.tmps, os.set o .dead ++ [.row e (bif flatKs ti.cells then .deep else Md.min mx my) 0 (xs ++ ys)]⟩
              | _ => False
            | .nst _ o _ i off => match os.getD o .dead with
              | .row T0 md ver xs0 => bif !md.isZ && (flatKs ti.cells || Md.beq my md.down) then
                  Kv (.row (os.length + 1)) ⟨s.tmps, os.set o (.hole T0 md ver xs0 i off) ++ [.dead, .row e md.down 0 (xs ++ ys)]⟩
                else False
              | .map K V md ver es => bif !md.isZ && (flatKs ti.cells || Md.beq my md.down) then
                  Kv (.row (os.length + 1)) ⟨s.tmps, os.set o (.maph K V md ver es i) ++ [.dead, .row e md.down 0 (xs ++ ys)]⟩
                else False
              | _ => False
            | .nsl _ o _ i off lo _ => bif Nat.beq lo 0 then match os.getD o .dead with
              | .row T0 md ver xs0 => bif !md.isZ && (flatKs ti.cells || Md.beq my md.down) then
                  Kv (.row (os.length + 1)) ⟨s.tmps, os.set o (.hole T0 md ver xs0 i off) ++ [.dead, .row e md.down 0 (xs ++ ys)]⟩
                else False
              | _ => False
              else False
            | _ => False
        else False
      | _, _ => False
    | none => False
  | _ => False

def natC : C → Option Int
  | .d (.int _ n) => some n
  | _ => none
/-- A slice of plain data. -/
def slx (e : TypeId) : C → Option (List (List D))
  | .d (.list T' xs) => bif Nat.beq T' e then some xs else none
  | .full T' xs => bif Nat.beq T' e then some xs else none
  | _ => none
def boundC (d : Int) : Option C → Option Int
  | none => some d
  | some c => natC c
def evalSlice (E : Env) (T : TypeId) (x : C) (lo hi mx : Option C) (s : St) (Kv : C → R) : R :=
  match mx with
  | some m => match boundC 0 lo, hi, natC m with
    | some 0, some (.d (.int _ 0)), some 0 => match E.B.tt T with
      | some ⟨.slice e, _, _⟩ => match elems e x s.objs, E.B.tt e with
        | some _, some _ => Kv .cap0
        | _, _ => False
      | _ => False
    | _, _, _ => False
  | none =>
    match E.B.tt T with
    | some ⟨.str, _, _⟩ => match x with
      | .d (.str t) =>
        match boundC 0 lo, boundC t.length hi with
        | some l, some h => (0 ≤ l ∧ l ≤ h ∧ h ≤ (t.length : Int)) ∧ Kv (.d (.str ((t.take h.toNat).drop l.toNat)))
        | _, _ => False
      | _ => False
    | some ⟨.slice e, _, _⟩ => match x with
      | .nst e' o ver i off => match elems e x s.objs, E.B.tt e with
        | some xs, some _ => match boundC 0 lo, boundC xs.length hi with
          | some l, some h => (0 ≤ l ∧ l ≤ h ∧ h ≤ (xs.length : Int)) ∧ Kv (.nsl e' o ver i off l.toNat (h.toNat - l.toNat))
          | _, _ => False
        | _, _ => False
      | x => match slx e x, E.B.tt e with
        | some xs, some _ =>
          match boundC 0 lo, boundC xs.length hi with
          | some l, some h => (0 ≤ l ∧ l ≤ h ∧ h ≤ (xs.length : Int)) ∧ Kv (.d (.list e ((xs.take h.toNat).drop l.toNat)))
          | _, _ => False
        | _, _ => False
    | _ => False
/-- A row that is sliced is plain data from then on. -/
def evalSliceS (E : Env) (T : TypeId) (x : C) (lo hi mx : Option C) (s : St) (Kv : C → St → R) : R :=
  match mx, x, E.B.tt T with
  | none, .row _, some ⟨.slice e, _, _⟩ => match toD (.list e) x s.objs with
    | some (d, os) => evalSlice E T (.d d) lo hi mx ⟨s.tmps, os⟩ fun c => Kv c ⟨s.tmps, os⟩
    | none => False
  | _, _, _ => evalSlice E T x lo hi mx s fun c => Kv c s

def evalLoad (E : Env) (T : TypeId) (x : C) (s : St) (Kv : C → R) : R :=
  match E.B.tt T with
  | none => False
  | some ti => match x with
    | .ref o off => match s.objs.getD o .dead with
      | .box cs => bif Nat.ble (off + ti.cells.length) cs.length then
          match mkC ti.uk.isAgg ((cs.drop off).take ti.cells.length) with
          | some c => Kv c
          | none => False
        else False
      | _ => False
    | .lp ks ds off => bif ksBeq ((ks.drop off).take ti.cells.length) ti.cells && dataKs ti.cells then
        match mkC ti.uk.isAgg (kCells ti.cells ds off) with
        | some c => Kv c
        | none => False
      else False
    | .rp o i off => match s.objs.getD o .dead with
      | .row T' md ver xs => match E.B.tt T' with
        | some ti' => bif ksBeq ((ti'.cells.drop off).take ti.cells.length) ti.cells && dataKs ti.cells then
            i < xs.length ∧ match mkC ti.uk.isAgg (rCells o ver i md.isZ ti.cells (xs.getD i []) off) with
            | some c => Kv c
            | none => False
          else False
        | none => False
      | .frz T' xs => match E.B.tt T' with
        | some ti' => bif ksBeq ((ti'.cells.drop off).take ti.cells.length) ti.cells && dataKs ti.cells then
            i < xs.length ∧ match mkC ti.uk.isAgg (kCells ti.cells (xs.getD i []) off) with
            | some c => Kv c
            | none => False
          else False
        | none => False
      | _ => False
    | .np e o ver i off j f => match s.objs.getD o .dead with
      | .row _ md ver' xs => match E.B.tt e with
        | some te => bif Nat.beq ver ver' && (!md.isZ && (ksBeq ((te.cells.drop f).take ti.cells.length) ti.cells && (dataKs ti.cells && (flatKs ti.cells || Md.beq md (.lv 1))))) then
            (i < xs.length ∧ j < (nstF xs i off).length) ∧ match mkC ti.uk.isAgg (kCells ti.cells ((nstF xs i off).getD j []) f) with
            | some c => Kv c
            | none => False
          else False
        | none => False
      | .map _ _ md ver' es => match E.B.tt e with
        | some te => bif (Nat.beq ver ver' && Nat.beq off 0) && (!md.isZ && (ksBeq ((te.cells.drop f).take ti.cells.length) ti.cells && (dataKs ti.cells && (flatKs ti.cells || Md.beq md (.lv 1))))) then
            (i < es.length ∧ j < (mapF es i).length) ∧ match mkC ti.uk.isAgg (kCells ti.cells ((mapF es i).getD j []) f) with
            | some c => Kv c
            | none => False
          else False
        | none => False
      | _ => False
    | _ => False
/-- The kinds of cells in which a slice of one's own may lie. -/
def hasL : List CK → Bool
  | [] => false
  | k :: ks => k.isL || hasL ks
def storeRow (E : Env) (ks : List CK) (o i off : Nat) (cs : List C) (md : Md) (s : St) (Kv : St → R) (no : R) : R :=
  match absorbs E.B.tt md ks cs s.objs with
  | some (ds, os) => match os.getD o .dead with
    | .row T md0 ver xs => match E.B.tt T with
      | some ti => bif Md.le md md0 && ksBeq ((ti.cells.drop off).take ks.length) ks then
          i < xs.length ∧ match hasL ks with
            | true => Kv ⟨s.tmps, os.set o (.row T md (ver + 1) (xs.set i (setRun (xs.getD i []) off ds)))⟩
            | false => Kv ⟨s.tmps, os.set o (.row T md ver (xs.set i (setRun (xs.getD i []) off ds)))⟩
        else False
      | none => False
    | _ => False
  | none => no
def evalStore (E : Env) (T : TypeId) (x v : C) (s : St) (Kv : St → R) : R :=
  match E.B.tt T with
  | none => False
  | some ti => match x with
    | .ref o off => match s.objs.getD o .dead with
      | .box cs => bif Nat.beq (cellsC v).length ti.cells.length && Nat.ble (off + ti.cells.length) cs.length && (cellsC v).all C.one then
          match promCs E.B.tt ti.cells (cellsC v) s.objs with
          | (vs, os) => Kv ⟨s.tmps, os.set o (.box (setRun cs off vs))⟩
        else False
      | _ => False
    | .rp o i off => match s.objs.getD o .dead with
      | .row _ md _ _ => bif Nat.beq (cellsC v).length ti.cells.length && ((cellsC v).all C.one && Nat.blt 0 ti.cells.length) then
            storeRow E ti.cells o i off (cellsC v) md s Kv
              (storeRow E ti.cells o i off (cellsC v) (Md.min (.lv 1) md) s Kv
                (storeRow E ti.cells o i off (cellsC v) (.lv 0) s Kv False))
          else False
      | .hole T' md ver xs i0 off0 => match v with
        | .row m => match s.objs.getD m .dead with
          | .row e m' _ ys => bif Nat.beq off off0 && (ksBeq ti.cells [.list e] && (Md.beq m'.up md && !Nat.beq m o)) then
              match E.B.tt T' with
              | some ti' => bif ksBeq ((ti'.cells.drop off).take 1) [.list e] then
                  i = i0 ∧ Kv ⟨s.tmps, (s.objs.set m .dead).set o (.row T' md (ver + 1) (xs.set i ((xs.getD i []).set off (.list e ys))))⟩
                else False
              | none => False
            else False
          | _ => False
        | _ => False
      | _ => False
    | _ => False

def evalIndexAddr (E : Env) (T : TypeId) (x i : C) (s : St) (Kv : C → R) : R :=
  match E.B.tt T, natC i with
  | some ⟨.slice e, _, _⟩, some n => match E.B.tt e with
    | some ti => match elems e x s.objs with
      | some xs => bif dataKs ti.cells then (0 ≤ n ∧ n < (xs.length : Int)) ∧ (match x with
          | .row o => Kv (.rp o n.toNat 0)
          | .nst e o ver i off => Kv (.np e o ver i off n.toNat 0)
          | .nsl e o ver i off lo _ => Kv (.np e o ver i off (lo + n.toNat) 0)
          | _ => Kv (.lp ti.cells (xs.getD n.toNat []) 0)) else False
      | none => match x with
        | .row o => match s.objs.getD o .dead with
          | .hole T' _ _ xs _ _ => bif Nat.beq T' e then (0 ≤ n ∧ n < (xs.length : Int)) ∧ Kv (.rp o n.toNat 0) else False
          | _ => False
        | _ => False
    | none => False
  | _, _ => False

def evalAssert (E : Env) (T : TypeId) (ok : Bool) (x : C) (Kv : C → R) : R :=
  match E.B.tt T, ok, x with
  | some ⟨.str, _, _⟩, true, .d d => isI d = true ∧ Kv (.tuple [.d (.str (ifS T d)), .d (.bool (ifIs T d))])
  | some ⟨.int k, _, _⟩, true, .d d => isI d = true ∧ Kv (.tuple [.d (.int k (ifI T d)), .d (.bool (ifIs T d))])
  | some ⟨.struct _, ks, _⟩, true, .d d => bif scalKs ks then isI d = true ∧ Kv (.tuple [.agg (kCells ks (ifSs T d) 0), .d (.bool (ifIs T d))]) else False
  | _, _, _ => False

/-! ### Maps -/
def keyK : UK → Option CK
  | .str => some .str
  | .int k => some (.int k)
  | _ => none
/-- A map's key and element, as kinds of cells. -/
def mapOK (tt : TypeId → Option TI) (K V : TypeId) : Option (CK × CK) :=
  match tt K, tt V with
  | some tk, some tv => match keyK tk.uk, tv.cells with
    | some ck, [cv] => bif (cv.data && !tv.uk.isAgg) && ksBeq tk.cells [ck] then some (ck, cv) else none
    | _, _ => none
  | _, _ => none
def mapKV (tt : TypeId → Option TI) (T : TypeId) : Option (TypeId × TypeId × CK × CK) :=
  match tt T with
  | some ⟨.map K V, _, _⟩ => match mapOK tt K V with
    | some (ck, cv) => some (K, V, ck, cv)
    | none => none
  | _ => none
def keyFit : CK → D → Bool
  | .str, .str _ => true
  | .int k, .int j _ => ikBeq j k
  | _, _ => false
def keyEq : D → D → Bool
  | .str a, .str b => decide (a = b)
  | .int _ a, .int _ b => decide (a = b)
  | _, _ => false
def mIx (es : List (D × D)) (k : D) : Option Nat := es.findIdx? fun e => keyEq e.1 k
def mHas (es : List (D × D)) (k : D) : Bool := (mIx es k).isSome
def mGet (cv : CK) (es : List (D × D)) (k : D) : D := match mIx es k with
  | some i => (es.getD i (.z, .z)).2
  | none => cv.zero
def mPut (es : List (D × D)) (k d : D) : List (D × D) := match mIx es k with
  | some i => es.set i ((es.getD i (.z, .z)).1, d)
  | none => es ++ [(k, d)]
/-- How the slices in a new map are owned. -/
def mapMd (tt : TypeId → Option TI) : CK → Md
  | .list e => bif flatT tt e then .deep else .lv 1
  | _ => .lv 0
def evalLookup (E : Env) (T : TypeId) (x k : C) (ok : Bool) (s : St) (Kv : C → R) : R :=
  match mapKV E.B.tt T, x, k with
  | some (K, V, ck, cv), .mp o, .d kd => match s.objs.getD o .dead with
    | .map K' V' md ver es => bif (Nat.beq K K' && Nat.beq V V') && keyFit ck kd then
        match cv, md.isZ with
        | .list e, false => bsel (mHas es kd)
            (bif ok then Kv (.tuple [.nst e o ver ((mIx es kd).getD 0) 0, .d (.bool true)]) else Kv (.nst e o ver ((mIx es kd).getD 0) 0))
            (bif ok then Kv (.tuple [.cap0, .d (.bool false)]) else Kv .cap0)
        | cv, _ => bif ok then Kv (.tuple [.d (cv.norm (mGet cv es kd)), .d (.bool (mHas es kd))]) else Kv (.d (cv.norm (mGet cv es kd)))
      else False
    | _ => False
  | _, _, _ => False
def evalMapUpdate (E : Env) (T : TypeId) (x k v : C) (s : St) (Kv : St → R) : R :=
  match mapKV E.B.tt T, x, k with
  | some (K, V, ck, cv), .mp o, .d kd => match s.objs.getD o .dead with
    | .map K' V' md ver es => bif (Nat.beq K K' && Nat.beq V V') && keyFit ck kd then
        match absorb E.B.tt md cv v s.objs with
        | some (d, os) => match os.getD o .dead with
          | .map _ _ _ _ _ => Kv ⟨s.tmps, os.set o (.map K V md (ver + 1) (mPut es kd d))⟩
          | _ => False
        | none => False
      else False
    | .maph K' V' md ver es i => bif (Nat.beq K K' && Nat.beq V V') && keyFit ck kd then
        match absorb E.B.tt md cv v s.objs with
        | some (d, os) => match os.getD o .dead with
          | .maph _ _ _ _ _ _ => mIx es kd = some i ∧ Kv ⟨s.tmps, os.set o (.map K V md (ver + 1) (mPut es kd d))⟩
          | _ => False
        | none => False
      else False
    | _ => False
  | _, _, _ => False

def zipT : List TypeId → List C → List (TypeId × C)
  | t :: ts, c :: cs => (t, c) :: zipT ts cs
  | _, _ => []

/-- A value moved; what has no room becomes a row of one's own. -/
def moveC (E : Env) (T : TypeId) (c : C) (s : St) (Kv : C → St → R) : R :=
  match c, E.B.tt T with
  | .cap0, some ⟨.slice e, _, _⟩ => bif rowT E.B.tt e then Kv (.row s.objs.length) ⟨s.tmps, s.objs ++ [.row e .deep 0 []]⟩ else Kv .cap0 s
  | c, _ => Kv c s
/-- One operation. -/
def evalOp (E : Env) (o : Oper) (s : St) (Kv Kp : C → St → R) : R :=
  match o.op with
  | .move x => moveC E o.type (s.ev x) s Kv
  | .assign x => moveC E o.type (s.ev x) s Kv
  | .pick c a b => match s.ev c with
    | .d (.bool t) => bsel t (Kv (s.ev a) s) (Kv (s.ev b) s)
    | _ => False
  | .alloc T => match E.B.tt T with
    | some ti => bif Nat.blt 0 ti.cells.length then match promCs E.B.tt ti.cells (ti.cells.map zeroC) s.objs with
        | (cs, os) => Kv (.ref os.length 0) ⟨s.tmps, os ++ [.box cs]⟩ else False
    | none => False
  | .box T x => match E.B.tt T with
    | some ti => bif Nat.beq (cellsC (s.ev x)).length ti.cells.length && (Nat.blt 0 ti.cells.length && (cellsC (s.ev x)).all C.one) then
        match promCs E.B.tt ti.cells (cellsC (s.ev x)) s.objs with
        | (cs, os) => Kv (.ref os.length 0) ⟨s.tmps, os ++ [.box cs]⟩ else False
    | none => False
  | .build T ps => match E.B.tt T with
    | some ⟨.struct fs, ks, _⟩ => match putFields E fs (ps.toList.map fun p => (p.1, s.ev p.2)) (ks.map zeroC) with
      | some cs => Kv (.agg cs) s
      | none => False
    | _ => False
  | .buildSlice T n ps => match E.B.tt T with
    | some ⟨.slice e, _, _⟩ => match E.B.tt e with
      | some ti => bif dataKs ti.cells && Nat.blt 0 ti.cells.length && (Nat.beq ps.toList.length n && (Nat.ble (n * ti.cells.length) 4096 && ps.toList.all fun p => (cellsC (s.ev p.2)).all C.one)) then
          match putBest E.B.tt ti.cells (ps.toList.map fun p => (p.1, s.ev p.2)) s.objs with
          | some (md, xs, os) => Kv (.row os.length) ⟨s.tmps, os ++ [.row e md 0 xs]⟩
          | none => False
        else False
      | none => False
    | _ => False
  | .load T x => evalLoad E T (s.ev x) s fun c => Kv c s
  | .store T x v => evalStore E T (s.ev x) (s.ev v) s fun s' => Kv .undef s'
  | .nilCheck x => match s.ev x with
    | .ref o off => Kv (.ref o off) s
    | .func f cs => Kv (.func f cs) s
    | .lp ks ds off => Kv (.lp ks ds off) s
    | .rp o i off => Kv (.rp o i off) s
    | _ => False
  | .binOp op T x y _ => bif isNilS y then evalNilS E op T (s.ev x) s.objs (fun c => Kv c s) else evalBin2 E op T y (s.ev x) (s.ev y) fun c => Kv c s
  | .unOp op _ x => match op, s.ev x with
    | .not, .d (.bool b) => Kv (.d (.bool (!b))) s
    | .neg, .d (.int k n) => Kv (.d (.int k (k.wrap (0 - n)))) s
    | _, _ => False
  | .convert src dst x => evalConv E src dst (s.ev x) s fun c => Kv c s
  | .makeInterface T x => match E.B.tt T, s.ev x with
    | some ⟨.bool, _, _⟩, .d (.bool b) => Kv (.d (.iface T (.bool b))) s
    | some ⟨.int k, _, _⟩, .d (.int j n) => bif ikBeq j k then Kv (.d (.iface T (.int j n))) s else False
    | some ⟨.str, _, _⟩, .d (.str l) => Kv (.d (.iface T (.str l))) s
    | some ⟨.struct _, ks, _⟩, .agg cs => bif scalKs ks then match toDs ks cs s.objs with
        | some (ds, _) => Kv (.d (.ifaceS T ds)) s
        | none => False
      else False
    | _, _ => False
  | .makeFunc fn first caps => match fn, first.toList with
    | .func f, [] => Kv (.func f (caps.toList.map s.ev)) s
    | _, _ => False
  | .makeSlice T l c => match E.B.tt T, natC (s.ev l), natC (s.ev c) with
    | some ⟨.slice e, _, _⟩, some n, some m => match E.B.tt e with
      | some ti => bif dataKs ti.cells && (Nat.blt 0 ti.cells.length && Nat.ble ti.bytes 1024) then
          (0 ≤ n ∧ n ≤ m ∧ m ≤ (big : Int)) ∧
          Kv (.row s.objs.length) ⟨s.tmps, s.objs ++ [.row e .deep 0 (List.replicate n.toNat (ti.cells.map CK.zero))]⟩ else False
      | none => False
    | _, _, _ => False
  | .slice T x lo hi mx => evalSliceS E T (s.ev x) (lo.map s.ev) (hi.map s.ev) (mx.map s.ev) s Kv
  | .fieldAddr T x f => match E.B.tt T with
    | some ⟨.struct fs, _, _⟩ => match fs[f]? with
      | some (off, U) => match E.B.tt U with
        | some tu => bif Nat.blt 0 tu.cells.length then match s.ev x with
            | .ref o a => Kv (.ref o (a + off)) s
            | .lp ks ds a => Kv (.lp ks ds (a + off)) s
            | .rp o i a => Kv (.rp o i (a + off)) s
            | .np e o ver i of j a => Kv (.np e o ver i of j (a + off)) s
            | _ => False
          else False
        | none => False
      | none => False
    | _ => False
  | .field T x f => match E.B.tt T with
    | some ⟨.struct fs, _, _⟩ => match fs[f]?, s.ev x with
      | some (off, U), .agg cs => match E.B.tt U with
        | some tu => bif Nat.ble (off + tu.cells.length) cs.length then match mkC tu.uk.isAgg ((cs.drop off).take tu.cells.length) with
            | some c => Kv c s
            | none => False
          else False
        | none => False
      | _, _ => False
    | _ => False
  | .indexAddr T x i => evalIndexAddr E T (s.ev x) (s.ev i) s fun c => Kv c s
  | .index T x i => match E.B.tt T, s.ev x, natC (s.ev i) with
    | some ⟨.str, _, _⟩, .d (.str t), some n => (0 ≤ n ∧ n < (t.length : Int)) ∧ Kv (.d (.int .u8 ((t.getD n.toNat 0).toNat : Int))) s
    | _, _, _ => False
  | .typeAssert x _ T ok => evalAssert E T ok (s.ev x) fun c => Kv c s
  | .extract t i => match s.ev t with
    | .tuple cs => match cs[i]? with
      | some c => Kv c s
      | none => False
    | _ => False
  | .call c => match c.callee with
    | .builtin .len => match c.argTypes.toList, c.args.toList with
      | [T], [x] => match lenC T E (s.ev x) s.objs with
        | some n => n ≤ big → Kv (.d (.int .i64 (n : Int))) s
        | none => False
      | _, _ => False
    | .builtin .append => match c.argTypes.toList, c.args.toList with
      | [T, U], [x, y] => bif Nat.beq T U then evalAppend E T (s.ev x) (s.ev y) s Kv else False
      | _, _ => False
    | .builtin .min => match c.args.toList with
      | [x, y] => match s.ev x, s.ev y with
        | .d (.int k a), .d (.int k' b) => bif ikBeq k k' then Kv (.d (.int k (bif decide (b < a) then b else a))) s else False
        | _, _ => False
      | _ => False
    | .builtin .max => match c.args.toList with
      | [x, y] => match s.ev x, s.ev y with
        | .d (.int k a), .d (.int k' b) => bif ikBeq k k' then Kv (.d (.int k (bif decide (a < b) then b else a))) s else False
        | _, _ => False
      | _ => False
    | .value f => match s.ev f with
      | .func g caps => bif Nat.beq c.args.toList.length c.argTypes.toList.length then evalCall E g (zipT c.argTypes.toList (c.args.toList.map s.ev)) caps o.type s Kv Kp else False
      | _ => False
    | _ => False
  | .makeMap T r => match r, mapKV E.B.tt T with
    | none, some (K, V, _, cv) => Kv (.mp s.objs.length) ⟨s.tmps, s.objs ++ [.map K V (mapMd E.B.tt cv) 0 []]⟩
    | _, _ => False
  | .lookup T x k ok => evalLookup E T (s.ev x) (s.ev k) ok s fun c => Kv c s
  | .mapUpdate T x k v => evalMapUpdate E T (s.ev x) (s.ev k) (s.ev v) s fun s' => Kv .undef s'
  | .panic x => match s.ev x with
    | .d (.iface t d) => Kp (.d (.iface t d)) s
    | .d (.ifaceS t d) => Kp (.d (.ifaceS t d)) s
    | _ => False
  | _ => False

def nthO (l : List Oper) : Nat → Option Oper := List.rec (fun _ => none) (fun o _ ih i => match i with | 0 => some o | i + 1 => ih i) l
/-- Is it wanted? -/
def guardR (ops : List Oper) (o : Oper) (s : St) (yes no : R) : R :=
  match o.guard with
  | none => yes
  | some (j, want) => match (match nthO ops j with
      | some oj => match oj.dst with
        | some t => look t s.tmps
        | none => .undef
      | none => .undef) with
    | .d (.bool b) => match want with
      | true => bsel b yes no
      | false => bsel b no yes
    | .unw => no
    | _ => False
/-- Is this operation's result another one's guard? -/
def guards (i : Nat) (l : List Oper) : Bool := List.rec false (fun o _ ih => match o.guard with
    | some (j, _) => bif Nat.beq j i then true else ih
    | none => ih) l
/-- What is a guard is known from then on. -/
def splitB (g : Bool) (c : C) (K : C → R) : R :=
  match g, c with
  | true, .d (.bool b) => bsel b (K (.d (.bool true))) (K (.d (.bool false)))
  | _, c => K c
def evalOps (E : Env) (ops l : List Oper) : Nat → St → (Ex → St → R) → R := List.rec (fun _ s K => K .normal s) (fun o _ ih i s K =>
    guardR ops o s
      (evalOp E o s (fun c s' => splitB (guards i ops) c fun c' => s'.putK E.nt o.dst c' fun s' => ih (i + 1) s' K) (fun c s' => K (.panic c) s'))
      (s.putK E.nt o.dst .unw fun s' => ih (i + 1) s' K)) l
theorem evalOps_cons (E : Env) (ops : List Oper) (o : Oper) (rest : List Oper) (i : Nat) (s : St) (K : Ex → St → R) : evalOps E ops (o :: rest) i s K =
    guardR ops o s
      (evalOp E o s (fun c s' => splitB (guards i ops) c fun c' => s'.putK E.nt o.dst c' fun s' => evalOps E ops rest (i + 1) s' K) (fun c s' => K (.panic c) s'))
      (s.putK E.nt o.dst .unw fun s' => evalOps E ops rest (i + 1) s' K) := rfl

/-! ### What comes behind -/
def seqK (k : St → R) (K : Ex → St → R) : Ex → St → R := fun e s =>
  match e with
  | .normal => k s
  | e => K e s
def blockK (b : Nat) (K : Ex → St → R) : Ex → St → R := fun e s =>
  match e with
  | .exit i => bif Nat.beq i b then K .normal s else K (.exit i) s
  | e => K e s
def normK (nm : St → Option St) (I : St → R) : St → R := fun s =>
  match nm s with
  | some s0 => s0.sq I
  | none => False
/-- One round of a loop, from its head on. -/
def roundP (step : St → (Ex → St → R) → R) (nm : St → Option St) (s : St) (I : St → R) (K : Ex → St → R) : R := step s (seqK (normK nm I) K)
/-- A loop: the least that is closed under its rounds. -/
inductive LoopP (step : St → (Ex → St → R) → R) (nm : St → Option St) (s : St) (K : Ex → St → R) : Prop where
  | mk (h : ∀ I : St → Prop, (∀ s, roundP step nm s I K → I s) → I s)

/-! ### Regions that draw their order -/
def noRow : C → Bool
  | .row _ => false
  | .agg cs => cs.all fun c => match c with
    | .row _ => false
    | _ => true
  | _ => true
/-- A value that a call hands back and nothing else, whatever is asked of it. -/
def PureW (W : Sum) (args : List C) (c : C) : Prop := ∀ Kr Kp : C → List Ob → R, Kr c [] → W args [] Kr Kp
/-- An operation that only yields a value. -/
def valOp (E : Env) (o : Oper) (s : St) (Kv : C → R) : R :=
  match o.op with
  | .move x => Kv (s.ev x)
  | .assign x => Kv (s.ev x)
  | .pick c a b => match s.ev c with
    | .d (.bool t) => bsel t (Kv (s.ev a)) (Kv (s.ev b))
    | _ => False
  | .load T x => evalLoad E T (s.ev x) s Kv
  | .nilCheck x => match s.ev x with
    | .ref o off => Kv (.ref o off)
    | .func f cs => Kv (.func f cs)
    | .lp ks ds off => Kv (.lp ks ds off)
    | .rp o i off => Kv (.rp o i off)
    | _ => False
  | .binOp op T x y _ => evalBin2 E op T y (s.ev x) (s.ev y) Kv
  | .unOp op _ x => match op, s.ev x with
    | .not, .d (.bool b) => Kv (.d (.bool (!b)))
    | .neg, .d (.int k n) => Kv (.d (.int k (k.wrap (0 - n))))
    | _, _ => False
  | .convert src dst x => evalConv E src dst (s.ev x) s Kv
  | .buildSlice T n ps => match E.B.tt T with
    | some ⟨.slice e, _, _⟩ => match E.B.tt e with
      | some ti => bif (dataKs ti.cells && Nat.blt 0 ti.cells.length && (Nat.beq ps.toList.length n && (Nat.ble (n * ti.cells.length) 4096 && ps.toList.all fun p => (cellsC (s.ev p.2)).all C.one))) && (ps.toList.all fun p => noRow (s.ev p.2)) then
          match putParts E.B.tt (.lv 0) ti.cells (ps.toList.map fun p => (p.1, s.ev p.2)) s.objs 0 with
          | some (xs, _) => match xs with
            | [] => Kv .cap0
            | _ :: _ => Kv (.full e xs)
          | none => False
        else False
      | none => False
    | _ => False
  | .makeInterface T x => match E.B.tt T, s.ev x with
    | some ⟨.bool, _, _⟩, .d (.bool b) => Kv (.d (.iface T (.bool b)))
    | some ⟨.int k, _, _⟩, .d (.int j n) => bif ikBeq j k then Kv (.d (.iface T (.int j n))) else False
    | some ⟨.str, _, _⟩, .d (.str l) => Kv (.d (.iface T (.str l)))
    | _, _ => False
  | .slice T x lo hi mx => evalSlice E T (s.ev x) (lo.map s.ev) (hi.map s.ev) (mx.map s.ev) s Kv
  | .fieldAddr T x f => match E.B.tt T with
    | some ⟨.struct fs, _, _⟩ => match fs[f]? with
      | some (off, U) => match E.B.tt U with
        | some tu => bif Nat.blt 0 tu.cells.length then match s.ev x with
            | .ref o a => Kv (.ref o (a + off))
            | .lp ks ds a => Kv (.lp ks ds (a + off))
            | .rp o i a => Kv (.rp o i (a + off))
            | .np e o ver i of j a => Kv (.np e o ver i of j (a + off))
            | _ => False
          else False
        | none => False
      | none => False
    | _ => False
  | .field T x f => match E.B.tt T with
    | some ⟨.struct fs, _, _⟩ => match fs[f]?, s.ev x with
      | some (off, U), .agg cs => match E.B.tt U with
        | some tu => bif Nat.ble (off + tu.cells.length) cs.length then match mkC tu.uk.isAgg ((cs.drop off).take tu.cells.length) with
            | some c => Kv c
            | none => False
          else False
        | none => False
      | _, _ => False
    | _ => False
  | .indexAddr T x i => evalIndexAddr E T (s.ev x) (s.ev i) s Kv
  | .index T x i => match E.B.tt T, s.ev x, natC (s.ev i) with
    | some ⟨.str, _, _⟩, .d (.str t), some n => (0 ≤ n ∧ n < (t.length : Int)) ∧ Kv (.d (.int .u8 ((t.getD n.toNat 0).toNat : Int)))
    | _, _, _ => False
  | .extract t i => match s.ev t with
    | .tuple cs => match cs[i]? with
      | some c => Kv c
      | none => False
    | _ => False
  | .call c => match c.callee with
    | .builtin .len => match c.argTypes.toList, c.args.toList with
      | [T], [x] => match lenC T E (s.ev x) s.objs with
        | some n => Kv (.d (.int .i64 (n : Int)))
        | none => False
      | _, _ => False
    | .value f => match s.ev f with
      | .func g caps => bif Nat.beq c.args.toList.length c.argTypes.toList.length && (c.args.toList.all fun x => noRow (s.ev x)) then
          match argsOf E 0 (zipT c.argTypes.toList (c.args.toList.map s.ev)) s.objs with
          | some (cs, _) => sqL ((cs ++ caps).map (C.ren fun _ => none)) fun as => ∃ c', PureW (E.B.W g) as c' ∧ Kv c'
          | none => False
        else False
      | _ => False
    | _ => False
  | _ => False
def evalHead (E : Env) (ops l : List Oper) : Nat → St → (St → R) → R := List.rec (fun _ s K => K s) (fun o _ ih i s K =>
    guardR ops o s
      (valOp E o s fun c => splitB (guards i ops) c fun c' => s.putK E.nt o.dst c' fun s' => ih (i + 1) s' K)
      (s.putK E.nt o.dst .unw fun s' => ih (i + 1) s' K)) l
theorem evalHead_cons (E : Env) (ops : List Oper) (o : Oper) (rest : List Oper) (i : Nat) (s : St) (K : St → R) : evalHead E ops (o :: rest) i s K =
    guardR ops o s
      (valOp E o s fun c => splitB (guards i ops) c fun c' => s.putK E.nt o.dst c' fun s' => evalHead E ops rest (i + 1) s' K)
      (s.putK E.nt o.dst .unw fun s' => evalHead E ops rest (i + 1) s' K) := rfl
/-- A move, in whatever world. -/
def freeOp (o : Oper) (s : St) (Kv : C → R) : R :=
  match o.op with
  | .move x => Kv (s.ev x)
  | .assign x => Kv (s.ev x)
  | .pick c a b => match s.ev c with
    | .d (.bool t) => bsel t (Kv (s.ev a)) (Kv (s.ev b))
    | _ => False
  | _ => False
def isFree (o : Oper) : Bool :=
  match o.op with
  | .move _ => true
  | .assign _ => true
  | .pick _ _ _ => true
  | _ => false
def firstFree (ops : Array Oper) (listed : Array Bool) : List Nat → Option Nat
  | [] => none
  | i :: r => match ops[i]? with
    | some o => bif isFree o && Region.free .any ops listed i then some i else firstFree ops listed r
    | none => firstFree ops listed r
/-- In which orders a region's operations may come: first one that is free; or each of those that may come. -/
inductive Plan where
  | done
  | free (i : Nat) (p : Plan)
  | more (i : Nat) (p q : Plan)
  | stop
def Plan.alts : Plan → List Nat
  | .more i _ q => i :: q.alts
  | _ => []
def eqNs : List Nat → List Nat → Bool
  | [], [] => true
  | a :: x, b :: y => Nat.beq a b && eqNs x y
  | _, _ => false
def isSm (o : Option Nat) (i : Nat) : Bool := match o with | some j => Nat.beq j i | none => false
/-- Are these all orders? -/
def chk (ops : Array Oper) : Plan → Nat → Array Bool → Bool → Bool
  | .done, _, listed, hd => hd && (Region.ready .any ops listed).isEmpty
  | .free i p, n, listed, hd => hd && (Nat.blt 0 n && (isSm (firstFree ops listed (Region.ready .any ops listed)) i && chk ops p (n - 1) (listed.setIfInBounds i true) true))
  | .more i p q, n, listed, hd => (!hd || (Nat.blt 0 n && eqNs (Region.ready .any ops listed) (i :: q.alts))) && (chk ops p (n - 1) (listed.setIfInBounds i true) true && chk ops q n listed false)
  | .stop, _, _, hd => !hd
inductive PAnd (a b : Prop) : Prop where
  | mk (h : a) (k : b)
inductive PTrue : Prop where
  | mk
def evalPlan (E : Env) (ops : List Oper) (K : Ex → St → R) (p : Plan) : St → R := Plan.rec (fun s => K .normal s)
  (fun i _ ih s => match nthO ops i with
    | some o => guardR ops o s
      (freeOp o s fun c => splitB (guards i ops) c fun c' => s.putK E.nt o.dst c' fun s' => ih s')
      (s.putK E.nt o.dst .unw fun s' => ih s')
    | none => False)
  (fun i _ _ ihp ihq s => PAnd (match nthO ops i with
    | some o => guardR ops o s
      (evalOp E o s (fun c s' => splitB (guards i ops) c fun c' => s'.putK E.nt o.dst c' fun s' => ihp s') (fun c s' => K (.panic c) s'))
      (s.putK E.nt o.dst .unw fun s' => ihp s')
    | none => False) (ihq s))
  (fun _ => PTrue) p
/-! ### Values that are taken ahead -/
/-- In which orders a region's operations may come, some of which only yield values: these may come at any time. -/
inductive PlanA where
  | done
  | ahead (i : Nat) (deps : List Nat) (p : PlanA)
  | more (i : Nat) (gone : List Nat) (p q : PlanA)
  | stop
def PlanA.alts : PlanA → List Nat
  | .more i _ _ q => i :: q.alts
  | _ => []
def memN (i : Nat) (is : List Nat) : Bool := List.rec false (fun j _ ih => bif Nat.beq i j then true else ih) is
/-- What was taken ahead: which operation, where its value goes, what it hangs on, its value. -/
structure Ah where
  i : Nat
  t : Nat
  deps : List Nat
  c : C
/-- Some of the values that were taken ahead, in their places. -/
def layA' (f : Nat → Bool) (B : List Ah) : List (Nat × C) → List (Nat × C) := List.rec (fun ts => ts) (fun p _ ih ts => bif f p.i then ih ((p.t, p.c) :: ts) else ih ts) B
def landK (f : Nat → Bool) (B : List Ah) (s : St) (K : St → R) : R := match s with
  | ⟨ts, os⟩ => K ⟨layA' f B ts, os⟩
def dropK (is : List Nat) (B : List Ah) : (List Ah → R) → R := List.rec (fun K => K []) (fun p _ ih K => bif memN p.i is then ih K else ih fun r => K (p :: r)) B
def isU : C → Bool
  | .undef => true
  | _ => false
def maskB (B : List Ah) (ts : List (Nat × C)) : Bool := List.rec true (fun p _ ih => isU (look p.t ts) && ih) B
/-- They would still yield the same. -/
def recheckK (E : Env) (ops : List Oper) (B0 : List Ah) (s : St) (K : R) (B : List Ah) : R := List.rec K (fun p _ ih => match nthO ops p.i with
  | some o => landK (fun i => memN i p.deps) B0 s fun sr => valOp E o sr fun c' => c' = p.c ∧ ih
  | none => False) B
def evalA (E : Env) (ops : List Oper) (K : Ex → St → R) (p : PlanA) : List Ah → St → R := PlanA.rec (fun B s => match B with
    | [] => K .normal s
    | _ :: _ => False)
  (fun i deps _ ih B s => match nthO ops i with
    | some o => match o.dst with
      | some t => bif Nat.blt t E.nt && isU (look t s.tmps) then landK (fun j => memN j deps) B s fun sr => valOp E o sr fun c => c.sq fun c => ih (⟨i, t, deps, c⟩ :: B) s else False
      | none => False
    | none => False)
  (fun i gone _ _ ihp ihq B s => PAnd (match nthO ops i with
    | some o => landK (fun j => memN j gone) B s fun s1 => dropK gone B fun B' =>
        evalOp E o s1 (fun c s' => s'.putK E.nt o.dst c fun s2 => bif maskB B' s2.tmps then recheckK E ops B' s2 (ihp B' s2) B' else False) (fun c s' => K (.panic c) s')
    | none => False) (ihq B s))
  (fun _ _ => PTrue) p
def predsOf (ops : Array Oper) (i : Nat) : List Nat := match ops[i]? with
  | some o => o.after.toList.filterMap fun e => bif Region.binds .any e then some e.on else none
  | none => []
def subN (a b : List Nat) : Bool := a.all fun i => memN i b
def goneB (ops : Array Oper) : List Nat → List Nat → Bool
  | _, [] => true
  | acc, g :: r => memN g acc && goneB ops (predsOf ops g ++ acc) r
/-- Are these all orders? -/
def chkA (ops : Array Oper) : PlanA → List Nat → Array Bool → Bool → Bool
  | .done, B, D, hd => hd && (B.isEmpty && (Region.ready .any ops D).isEmpty)
  | .ahead i deps p, B, D, hd => hd && (memN i (Region.ready .any ops D) && (subN deps (predsOf ops i) && (subN deps B && (!memN i deps && (!memN i B && chkA ops p (i :: B) (D.setIfInBounds i true) true)))))
  | .more i gone p q, B, D, hd => (!hd || eqNs (Region.ready .any ops D) (i :: q.alts)) && (goneB ops (predsOf ops i) gone && (chkA ops p (B.filter fun j => !memN j gone) (D.setIfInBounds i true) true && chkA ops q B D false))
  | .stop, _, _, hd => !hd
def nodupN : List Nat → Bool
  | [] => true
  | a :: r => !memN a r && nodupN r
/-- A region whose values may be taken ahead. -/
def okA (ops : Array Oper) : Bool := (ops.toList.all fun o => o.guard.isNone) && (nodupN (ops.toList.filterMap fun o => o.dst) && (List.range ops.size).all fun i => (predsOf ops i).all fun j => Nat.blt j i)
def masksT (ms : List Nat) (ts : List (Nat × C)) : List (Nat × C) := List.rec ts (fun m _ ih => (m, .undef) :: ih) ms
/-- What is wanted of the values, in one order. -/
def canonT (live : List Nat) (ts : List (Nat × C)) : List (Nat × C) := List.rec [] (fun t _ ih => (t, look t ts) :: ih) live
/-- All orders come to one state. -/
def joinK (live : List Nat) (s1 : St) (K : Ex → St → R) : Ex → St → R := fun e s => match e with
  | .normal => sqT (canonT live s.tmps) fun ts => sqO s.objs fun os => s1 = ⟨ts, os⟩
  | .exit i => K (.exit i) s
  | .ret => K .ret s
  | .panic c => K (.panic c) s
/-- A region that draws its order: its head is free of it; or every order. -/
inductive DrawP (E : Env) (id : Nat) (ops : Array Oper) (s : St) (K : Ex → St → R) : Prop where
  | head (m : Nat) (h1 : E.draw id = some m) (h2 : Region.lexTailB .any ops m = true) (h : evalHead E ops.toList (ops.toList.take m) 0 s fun s' => evalOps E ops.toList (ops.toList.drop m) m s' K)
  | any (p : Plan) (h2 : Region.noSelect ops = true) (h3 : chk ops p ops.size (Array.replicate ops.size false) true = true) (h : evalPlan E ops.toList K p s)
  | ahead (ms : List Nat) (p : PlanA) (h1 : okA ops = true) (h3 : chkA ops p [] (Array.replicate ops.size false) true = true) (h : evalA E ops.toList K p [] ⟨masksT ms s.tmps, s.objs⟩)
  | join (ms live : List Nat) (p : PlanA) (s1 : St) (h1 : okA ops = true) (h3 : chkA ops p [] (Array.replicate ops.size false) true = true) (h : evalA E ops.toList (joinK live s1 K) p [] ⟨masksT ms s.tmps, s.objs⟩) (hk : K .normal s1)
def evalCode (E : Env) (co : Code) : Nat → St → (Ex → St → R) → R :=
  Code.rec (motive := fun _ => Nat → St → (Ex → St → R) → R)
    (fun _ s K => K .normal s)
    (fun id ops draw _ s K => bif draw then DrawP E id ops s K else evalOps E ops.toList ops.toList 0 s K)
    (fun _ _ iha ihb id s K => iha id s (seqK (fun s' => ihb id s' K) K))
    (fun c _ _ ihx ihy id s K => match s.ev c with
      | .d (.bool t) => bsel t (ihx id s K) (ihy id s K)
      | _ => False)
    (fun b _ ih _ s K => ih b s (blockK b K))
    (fun _ ih id s K => normK (norm E id) (fun s0 => LoopP (fun s K => ih id s K) (norm E id) s0 K) s)
    (fun _ _ _ _ _ _ _ _ _ => False)
    (fun i _ s K => K (.exit i) s)
    (fun _ _ _ _ _ => False)
    (fun _ _ _ _ => False)
    (fun _ _ _ _ => False)
    (fun _ s K => K .ret s)
    (fun _ _ _ _ => False) co
section
variable (E : Env) (id : Nat) (s : St) (K : Ex → St → R)
theorem evalCode_region (i : Nat) (ops : Array Oper) (draw : Bool) : evalCode E (.region i ops draw) id s K = bif draw then DrawP E i ops s K else evalOps E ops.toList ops.toList 0 s K := rfl
theorem evalCode_seq (a b : Code) : evalCode E (.seq a b) id s K = evalCode E a id s (seqK (fun s' => evalCode E b id s' K) K) := rfl
theorem evalCode_cond (c : Operand) (x y : Code) : evalCode E (.cond c x y) id s K = match s.ev c with
    | .d (.bool t) => bsel t (evalCode E x id s K) (evalCode E y id s K)
    | _ => False := rfl
theorem evalCode_block (b : Nat) (c : Code) : evalCode E (.block b c) id s K = evalCode E c b s (blockK b K) := rfl
theorem evalCode_loop (c : Code) : evalCode E (.loop c) id s K = normK (norm E id) (fun s0 => LoopP (fun s K => evalCode E c id s K) (norm E id) s0 K) s := rfl
end

/-- What a function hands back. -/
def evalRes (E : Env) : List ResultVar → St → Option (List C)
  | [], _ => some []
  | .tmp t :: r, s => match evalRes E r s with
    | some cs => some (look t s.tmps :: cs)
    | none => none
  | .cell a T :: r, s => match look a s.tmps, E.B.tt T with
    | .ref o off, some ti => match s.objs.getD o .dead with
      | .box bs => bif Nat.ble (off + ti.cells.length) bs.length then
          match mkC ti.uk.isAgg ((bs.drop off).take ti.cells.length), evalRes E r s with
          | some c, some cs => some (c :: cs)
          | _, _ => none
        else none
      | _ => none
    | _, _ => none
def finish (np : Nat) (c : C) (os : List Ob) (K : C → List Ob → R) : R :=
  sqN (reach os 300 (upto np 0 ++ c.refs) []) fun ks =>
  bif ksOK os.length np ks then (c.ren fun o => idxN o ks 0).sq fun c => sqO (pickObs ks os ks) fun os => K c os else False
/-- What is handed back at a function's end. -/
def doneK (E : Env) (fn : Func) (n : Nat) (Kr Kp : C → List Ob → R) : Ex → St → R := fun e s =>
  let done : R := bif Nat.beq fn.results.toList.length fn.resultTypes.toList.length then match evalRes E fn.results.toList s with
    | some cs => match argsOf E (bif E.own then 2 else 0) (zipT fn.resultTypes.toList cs) s.objs with
      | some (cs', os') => match cs' with
        | [c] => finish n c os' Kr
        | _ => finish n (.tuple cs') os' Kr
      | none => False
    | none => False else False
  match e with
  | .normal => done
  | .ret => done
  | .panic c => finish n c s.objs Kp
  | .exit _ => False
def argT : Nat → List C → List (Nat × C)
  | _, [] => []
  | i, c :: r => (i, c) :: argT (i + 1) r
def evalFn (E : Env) (fn : Func) : Sum := fun args os Kr Kp =>
  match fn.body with
  | none => False
  | some body =>
    evalCode { E with np := os.length, nt := bif Nat.ble fn.ntmps args.length then args.length else fn.ntmps } body 0 ⟨argT 0 args, os⟩ (doneK E fn os.length Kr Kp)

end
end Go.Proofs.EN
