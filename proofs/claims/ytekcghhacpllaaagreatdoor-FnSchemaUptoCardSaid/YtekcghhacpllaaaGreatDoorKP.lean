/- Contracts of functions of this program, by the evaluator EN; part KP. No conditions but those that each theorem states. -/
import Derived.Test.YtekcghhacpllaaaGreatDoorKH
set_option linter.unusedVariables false
set_option linter.unusedSimpArgs false
set_option maxRecDepth 100000
set_option maxHeartbeats 8000000
namespace Go.Proofs.SL
open Go Go.Proofs Go.Proofs.EN Go.Proofs.VT
/-! ### Tokens of a text, plain -/
def puncL : List Str := [[123], [125], [40], [41], [91], [93], [58], [33], [64], [46, 46, 46]]
def wchB (c : UInt8) : Bool := letB (c.toNat : Int) || digB (c.toNat : Int)
def wordN (t : Str) : Nat := (t.takeWhile wchB).length
def blankB (c : UInt8) : Bool := decide (c.toNat = 32) || decide (c.toNat = 9) || decide (c.toNat = 10) || decide (c.toNat = 13) || decide (c.toNat = 44)
def passN (t : Str) : Nat := (t.takeWhile blankB).length
/-- A name or a mark. -/
def tokO (t : Str) : Option (Tok × Nat) := match t with
  | [] => none
  | c :: _ => if letB (c.toNat : Int) then (if nameB (t.take (wordN t)) then some ((1, 0, t.take (wordN t)), wordN t) else none)
    else if c.toNat = 45 ∨ digB (c.toNat : Int) = true ∨ c.toNat = 36 then none
    else match puncL.find? (fun p => decide (t.take p.length = p)) with
      | some p => some ((4, 0, p), p.length)
      | none => none
def lexO : Nat → Str → Option (List Tok)
  | 0, _ => none
  | n + 1, t => if t.drop (passN t) = [] then some [] else match tokO (t.drop (passN t)) with
    | none => none
    | some (k, m) => match lexO n ((t.drop (passN t)).drop m) with
      | some r => some (k :: r)
      | none => none
/-! ### A schema out of tokens -/
def takO (k : Int) (s : Str) (ts : List Tok) : Option (List Tok) := match ts with
  | (k', _, s') :: r => if k' = k ∧ s' = s then some r else none
  | [] => none
def namO (ts : List Tok) : Option (Str × List Tok) := match ts with
  | (k, _, s) :: r => if k = 1 then some (s, r) else none
  | [] => none
def argO (ts : List Tok) : Option (ArgDef × List Tok) := match namO ts with
  | none => none
  | some (nm, r) => match takO 4 [58] r with
    | none => none
    | some r => match takO 1 tInt r with
      | none => none
      | some r => match takO 4 [33] r with
        | some r => some ((nm, true), r)
        | none => some ((nm, false), r)
def argsO : Nat → List Tok → List ArgDef → Option (List ArgDef × List Tok)
  | 0, _, _ => none
  | n + 1, ts, acc => match acc, takO 4 [41] ts with
    | _ :: _, some r => some (acc, r)
    | _, _ => match argO ts with
      | none => none
      | some (a, r) => argsO n r (acc ++ [a])
def tailO (nm : Str) (ar : List ArgDef) (ts : List Tok) : Option (FieldDef × List Tok) := match takO 4 [58] ts with
  | none => none
  | some r => match takO 4 [91] r with
    | some r => match namO r with
      | none => none
      | some (ty, r) => match takO 4 [93] r with
        | none => none
        | some r => match takO 4 [33] r with
          | some r => some ((nm, ar, ty, true, true), r)
          | none => some ((nm, ar, ty, true, false), r)
    | none => match namO r with
      | none => none
      | some (ty, r) => match takO 4 [33] r with
          | some r => some ((nm, ar, ty, false, true), r)
          | none => some ((nm, ar, ty, false, false), r)
def fldO (n : Nat) (ts : List Tok) : Option (FieldDef × List Tok) := match namO ts with
  | none => none
  | some (nm, r) => match takO 4 [40] r with
    | some r => match argsO n r [] with
      | none => none
      | some (ar, r) => tailO nm ar r
    | none => tailO nm [] r
def fldsO : Nat → List Tok → List FieldDef → Option (List FieldDef × List Tok)
  | 0, _, _ => none
  | n + 1, ts, acc => match takO 4 [125] ts with
    | some r => some (acc, r)
    | none => match fldO n ts with
      | none => none
      | some (f, r) => fldsO n r (acc ++ [f])
def typO (n : Nat) (ts : List Tok) : Option (TypeDef × List Tok) := match takO 1 [116, 121, 112, 101] ts with
  | none => none
  | some r => match namO r with
    | none => none
    | some (nm, r) => match takO 4 [123] r with
      | none => none
      | some r => match fldsO n r [] with
        | none => none
        | some (fs, r) => some ((nm, fs), r)
def schO : Nat → List Tok → List TypeDef → Option (List TypeDef)
  | 0, _, _ => none
  | n + 1, ts, acc => match ts with
    | [] => some acc
    | _ => match typO n ts with
      | none => none
      | some (t, r) => schO n r (acc ++ [t])
end Go.Proofs.SL
